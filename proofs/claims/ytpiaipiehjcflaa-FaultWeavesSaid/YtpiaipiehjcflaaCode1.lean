import Derived.Test.YtpiaipiehjcflaaTypes
set_option maxRecDepth 8000
set_option maxHeartbeats 4000000
namespace Go.Proofs.Ytpiaipiehjcflaa
open Go.RowKit
theorem info_3 : (Try.prog.info? 3).map (fun i => (i.zero, i.size, i.bytes)) = some (some (.int .i64 0), 1, 8) := by kernel_rfl
theorem info_62 : (Try.prog.info? 62).map (fun i => (i.zero, i.size, i.bytes)) = some (some (.agg #[.int .i64 0, .int .i64 0, .int .i64 0, .int .i64 0, .bool false]), 5, 40) := by kernel_rfl
theorem info_5 : (Try.prog.info? 5).map (fun i => (i.zero, i.size, i.bytes)) = some (some (.int .u8 0), 1, 1) := by kernel_rfl
theorem lay_62 : layoutOf Try.prog 62 = some ([.int .i64 0, .int .i64 0, .int .i64 0, .int .i64 0, .bool false], [(0, 1), (1, 1), (2, 1), (3, 1), (4, 1)]) := by kernel_rfl
theorem mixed : Try.prog.follows .mixedOrders = true := by kernel_rfl
theorem endm_c {P : Program} {e : Env} {ds : List Deferred} {w : World} {fn : Func} {R : Value → World → Prop} {t0 : Tmp} {v0 : Value} {y0 : TypeId} {a0 : Addr} (hres : fn.results = #[.cell t0 y0]) (hd : ds = []) (h0 : e t0 = .pointer (some a0)) (l0 : (loadVar y0 a0).run P w = .ok v0 w) (h : R v0 w) : atEnd P fn R .ret e ds w :=
 ⟨hd, fun tmps ht => ⟨_, by simp [results, hres, ht, asAddr, h0, l0], h⟩⟩
theorem fl_62 : Try.prog.fieldsOf 62 = #[{ name := "Kind", type := 60, offset := 0, embedded := false, tag := "", pkgPath := "", byteOffset := 0 }, { name := "Pick", type := 3, offset := 1, embedded := false, tag := "", pkgPath := "", byteOffset := 8 }, { name := "Hook", type := 3, offset := 2, embedded := false, tag := "", pkgPath := "", byteOffset := 16 }, { name := "Warp", type := 3, offset := 3, embedded := false, tag := "", pkgPath := "", byteOffset := 24 }, { name := "Up", type := 4, offset := 4, embedded := false, tag := "", pkgPath := "", byteOffset := 32 }] := by kernel_rfl
theorem seq_62 : SEq (α := FaultDamage) Try.prog 62 := by
 intro d x y w a b m wx m2 wy hx hy
 obtain ⟨_, ⟨_, _, rfl, rfl, ⟨_, _, rfl, rfl, ⟨_, _, rfl, rfl, ⟨_, _, rfl, rfl, rfl⟩⟩⟩⟩, rfl⟩ := hx
 obtain ⟨_, ⟨_, _, rfl, rfl, ⟨_, _, rfl, rfl, ⟨_, _, rfl, rfl, ⟨_, _, rfl, rfl, rfl⟩⟩⟩⟩, rfl⟩ := hy
 refine (run_equalIn_struct w (d + 1) 62 _ _ (by kernel_rfl) (by kernel_rfl)).trans ?_
 rw [fl_62]
 obtain ⟨x0, x1, x2, x3, x4⟩ := x
 obtain ⟨y0, y1, y2, y3, y4⟩ := y
 show (Op.eqFields (d + 1) #[.int .i64 (x0), .int .i64 (x1), .int .i64 (x2), .int .i64 (x3), .bool (x4)] #[.int .i64 (y0), .int .i64 (y1), .int .i64 (y2), .int .i64 (y3), .bool (y4)] _).run _ _ = _
 have x0p : (part 60 #[.int .i64 (x0), .int .i64 (x1), .int .i64 (x2), .int .i64 (x3), .bool (x4)] 0).run Try.prog w = .ok (.int .i64 (x0)) w := part_one Try.isAgg60 rfl
 have x1p : (part 3 #[.int .i64 (x0), .int .i64 (x1), .int .i64 (x2), .int .i64 (x3), .bool (x4)] 1).run Try.prog w = .ok (.int .i64 (x1)) w := part_one Try.isAgg3 rfl
 have x2p : (part 3 #[.int .i64 (x0), .int .i64 (x1), .int .i64 (x2), .int .i64 (x3), .bool (x4)] 2).run Try.prog w = .ok (.int .i64 (x2)) w := part_one Try.isAgg3 rfl
 have x3p : (part 3 #[.int .i64 (x0), .int .i64 (x1), .int .i64 (x2), .int .i64 (x3), .bool (x4)] 3).run Try.prog w = .ok (.int .i64 (x3)) w := part_one Try.isAgg3 rfl
 have x4p : (part 4 #[.int .i64 (x0), .int .i64 (x1), .int .i64 (x2), .int .i64 (x3), .bool (x4)] 4).run Try.prog w = .ok (.bool (x4)) w := part_one Try.isAgg4 rfl
 have y0p : (part 60 #[.int .i64 (y0), .int .i64 (y1), .int .i64 (y2), .int .i64 (y3), .bool (y4)] 0).run Try.prog w = .ok (.int .i64 (y0)) w := part_one Try.isAgg60 rfl
 have y1p : (part 3 #[.int .i64 (y0), .int .i64 (y1), .int .i64 (y2), .int .i64 (y3), .bool (y4)] 1).run Try.prog w = .ok (.int .i64 (y1)) w := part_one Try.isAgg3 rfl
 have y2p : (part 3 #[.int .i64 (y0), .int .i64 (y1), .int .i64 (y2), .int .i64 (y3), .bool (y4)] 2).run Try.prog w = .ok (.int .i64 (y2)) w := part_one Try.isAgg3 rfl
 have y3p : (part 3 #[.int .i64 (y0), .int .i64 (y1), .int .i64 (y2), .int .i64 (y3), .bool (y4)] 3).run Try.prog w = .ok (.int .i64 (y3)) w := part_one Try.isAgg3 rfl
 have y4p : (part 4 #[.int .i64 (y0), .int .i64 (y1), .int .i64 (y2), .int .i64 (y3), .bool (y4)] 4).run Try.prog w = .ok (.bool (y4)) w := part_one Try.isAgg4 rfl
 simp only [Op.eqFields, Sem.run_bind, Sem.run_ite, Sem.run_pure, x0p, x1p, x2p, x3p, x4p, y0p, y1p, y2p, y3p, y4p, Result.andThen_ok, run_equalIn_int _ _ _ _ _ _ _ Try.underlying60, run_equalIn_int _ _ _ _ _ _ _ Try.underlying3, run_equalIn_bool _ _ _ _ _ Try.underlying4]
 simp
 grind
theorem eg_62 : Try.prog.eqGuardType Try.prog.depth 62 = false := by kernel_rfl
theorem info_9 : (Try.prog.info? 9).map (fun i => (i.zero, i.size, i.bytes)) = some (some (Str.v ⟨[]⟩), 1, 16) := by kernel_rfl
theorem fl_56 : Try.prog.fieldsOf 56 = #[{ name := "Pick", type := 3, offset := 0, embedded := false, tag := "", pkgPath := "", byteOffset := 0 }, { name := "Warp", type := 3, offset := 1, embedded := false, tag := "", pkgPath := "", byteOffset := 8 }, { name := "Lifted", type := 4, offset := 2, embedded := false, tag := "", pkgPath := "", byteOffset := 16 }] := by kernel_rfl
theorem seq_56 : SEq (α := FaultSight) Try.prog 56 := by
 intro d x y w a b m wx m2 wy hx hy
 obtain ⟨_, ⟨_, _, rfl, rfl, ⟨_, _, rfl, rfl, rfl⟩⟩, rfl⟩ := hx
 obtain ⟨_, ⟨_, _, rfl, rfl, ⟨_, _, rfl, rfl, rfl⟩⟩, rfl⟩ := hy
 refine (run_equalIn_struct w (d + 1) 56 _ _ (by kernel_rfl) (by kernel_rfl)).trans ?_
 rw [fl_56]
 obtain ⟨x0, x1, x2⟩ := x
 obtain ⟨y0, y1, y2⟩ := y
 show (Op.eqFields (d + 1) #[.int .i64 (x0), .int .i64 (x1), .bool (x2)] #[.int .i64 (y0), .int .i64 (y1), .bool (y2)] _).run _ _ = _
 have x0p : (part 3 #[.int .i64 (x0), .int .i64 (x1), .bool (x2)] 0).run Try.prog w = .ok (.int .i64 (x0)) w := part_one Try.isAgg3 rfl
 have x1p : (part 3 #[.int .i64 (x0), .int .i64 (x1), .bool (x2)] 1).run Try.prog w = .ok (.int .i64 (x1)) w := part_one Try.isAgg3 rfl
 have x2p : (part 4 #[.int .i64 (x0), .int .i64 (x1), .bool (x2)] 2).run Try.prog w = .ok (.bool (x2)) w := part_one Try.isAgg4 rfl
 have y0p : (part 3 #[.int .i64 (y0), .int .i64 (y1), .bool (y2)] 0).run Try.prog w = .ok (.int .i64 (y0)) w := part_one Try.isAgg3 rfl
 have y1p : (part 3 #[.int .i64 (y0), .int .i64 (y1), .bool (y2)] 1).run Try.prog w = .ok (.int .i64 (y1)) w := part_one Try.isAgg3 rfl
 have y2p : (part 4 #[.int .i64 (y0), .int .i64 (y1), .bool (y2)] 2).run Try.prog w = .ok (.bool (y2)) w := part_one Try.isAgg4 rfl
 simp only [Op.eqFields, Sem.run_bind, Sem.run_ite, Sem.run_pure, x0p, x1p, x2p, y0p, y1p, y2p, Result.andThen_ok, run_equalIn_int _ _ _ _ _ _ _ Try.underlying3, run_equalIn_bool _ _ _ _ _ Try.underlying4]
 simp
 grind
theorem eg_56 : Try.prog.eqGuardType Try.prog.depth 56 = false := by kernel_rfl
theorem lay_56 : layoutOf Try.prog 56 = some ([.int .i64 0, .int .i64 0, .bool false], [(0, 1), (1, 1), (2, 1)]) := by kernel_rfl
theorem info_56 : (Try.prog.info? 56).map (fun i => (i.zero, i.size, i.bytes)) = some (some (.agg #[.int .i64 0, .int .i64 0, .bool false]), 3, 24) := by kernel_rfl
theorem capf_0_1 {e : Env} {f : FuncId} {j0 : Operand} {b0 : Value} (hb0 : ev e j0 = b0) : (Value.func (.func f) ((#[] : Array Operand).map (ev e)) ((#[j0] : Array Operand).map (ev e))) = .func (.func f) #[] #[b0] := by simp [hb0]
theorem lay_24 : layoutOf Try.prog 24 = some ([.int .i64 0, .slice none 0 0], [(0, 1), (1, 1)]) := by kernel_rfl
theorem lay_26 : layoutOf Try.prog 26 = some ([.int .i64 0, .slice none 0 0], [(0, 1), (1, 1)]) := by kernel_rfl
theorem lay_28 : layoutOf Try.prog 28 = some ([.int .i64 0, .slice none 0 0, .int .i64 0, .slice none 0 0], [(0, 2), (2, 2)]) := by kernel_rfl
theorem lay_98 : layoutOf Try.prog 98 = some ([.int .i64 0, .slice none 0 0, .int .i64 0, .slice none 0 0], [(0, 4)]) := by kernel_rfl
theorem capf_0_2 {e : Env} {f : FuncId} {j0 : Operand} {n0 : Operand} {b0 : Value} {b1 : Value} (hb0 : ev e j0 = b0) (hb1 : ev e n0 = b1) : (Value.func (.func f) ((#[] : Array Operand).map (ev e)) ((#[j0, n0] : Array Operand).map (ev e))) = .func (.func f) #[] #[b0, b1] := by simp [hb0, hb1]
theorem info_4 : (Try.prog.info? 4).map (fun i => (i.zero, i.size, i.bytes)) = some (some (.bool false), 1, 1) := by kernel_rfl
theorem layA_149 : ((Try.prog.info? 149).bind (·.zero)).map (·.cells.toList) = some [.int .i64 0, .int .i64 0] := by kernel_rfl
theorem szA_60 : (Try.prog.info? 60).map (·.size) = some 1 := by kernel_rfl
theorem key_3 : KeyLaw Try.prog 3 (Value.int .i64) := keyLaw_int Try.underlying3
theorem info_110 : (Try.prog.info? 110).map (fun i => (i.zero, i.size, i.bytes)) = some (some (.slice none 0 0), 1, 24) := by kernel_rfl
theorem lay_145 : layoutOf Try.prog 145 = some ([.int .i64 0, .slice none 0 0], [(0, 2)]) := by kernel_rfl
theorem endm_ctt {P : Program} {e : Env} {ds : List Deferred} {w : World} {fn : Func} {R : Value → World → Prop} {t0 : Tmp} {v0 : Value} {y0 : TypeId} {a0 : Addr} {t1 : Tmp} {v1 : Value} {t2 : Tmp} {v2 : Value} (hres : fn.results = #[.cell t0 y0, .tmp t1, .tmp t2]) (hd : ds = []) (h0 : e t0 = .pointer (some a0)) (l0 : (loadVar y0 a0).run P w = .ok v0 w) (h1 : e t1 = v1) (h2 : e t2 = v2) (h : R (.tuple #[v0, v1, v2]) w) : atEnd P fn R .ret e ds w :=
 ⟨hd, fun tmps ht => ⟨_, by simp [results, hres, ht, asAddr, h0, l0, h1, h2], h⟩⟩
theorem capf_1_0 {e : Env} {f : FuncId} {o0 : Operand} {a0 : Value} (ha0 : ev e o0 = a0) : (Value.func (.func f) ((#[o0] : Array Operand).map (ev e)) ((#[] : Array Operand).map (ev e))) = .func (.func f) #[a0] #[] := by simp [ha0]
theorem endm_ct {P : Program} {e : Env} {ds : List Deferred} {w : World} {fn : Func} {R : Value → World → Prop} {t0 : Tmp} {v0 : Value} {y0 : TypeId} {a0 : Addr} {t1 : Tmp} {v1 : Value} (hres : fn.results = #[.cell t0 y0, .tmp t1]) (hd : ds = []) (h0 : e t0 = .pointer (some a0)) (l0 : (loadVar y0 a0).run P w = .ok v0 w) (h1 : e t1 = v1) (h : R (.tuple #[v0, v1]) w) : atEnd P fn R .ret e ds w :=
 ⟨hd, fun tmps ht => ⟨_, by simp [results, hres, ht, asAddr, h0, l0, h1], h⟩⟩
theorem endm_ccc {P : Program} {e : Env} {ds : List Deferred} {w : World} {fn : Func} {R : Value → World → Prop} {t0 : Tmp} {v0 : Value} {y0 : TypeId} {a0 : Addr} {t1 : Tmp} {v1 : Value} {y1 : TypeId} {a1 : Addr} {t2 : Tmp} {v2 : Value} {y2 : TypeId} {a2 : Addr} (hres : fn.results = #[.cell t0 y0, .cell t1 y1, .cell t2 y2]) (hd : ds = []) (h0 : e t0 = .pointer (some a0)) (l0 : (loadVar y0 a0).run P w = .ok v0 w) (h1 : e t1 = .pointer (some a1)) (l1 : (loadVar y1 a1).run P w = .ok v1 w) (h2 : e t2 = .pointer (some a2)) (l2 : (loadVar y2 a2).run P w = .ok v2 w) (h : R (.tuple #[v0, v1, v2]) w) : atEnd P fn R .ret e ds w :=
 ⟨hd, fun tmps ht => ⟨_, by simp [results, hres, ht, asAddr, h0, l0, h1, l1, h2, l2], h⟩⟩
theorem plain_FaultDamage : Plain FaultDamage := fun _ m' _ w' _x _ h => (plain_two plain_int (plain_two plain_int (plain_two plain_int (plain_two plain_int plain_bool)))) _ m' _ w' _ _ h
theorem info_36 : (Try.prog.info? 36).map (fun i => (i.zero, i.size, i.bytes)) = some (some (.slice none 0 0), 1, 24) := by kernel_rfl
theorem info_22 : (Try.prog.info? 22).map (fun i => (i.zero, i.size, i.bytes)) = some (some (.slice none 0 0), 1, 24) := by kernel_rfl
/-- slices.Clone[[]int,int] -/
def f76 (x0 : List Int) : Option (List Int) := apnd 8 [] x0
theorem en76 : Enters Try.prog 76 := enters_of Try.func76 (by kernel_rfl) rfl
/-- slices.Clone[[]griffe/api.FaultDamage,griffe/api.FaultDamage] -/
def f77 (x0 : List FaultDamage) : Option (List FaultDamage) := apnd 40 [] x0
theorem en77 : Enters Try.prog 77 := enters_of Try.func77 (by kernel_rfl) rfl
theorem atS_0 (a : Addr) (w : World) : (Instr.fieldAt 154 (.pointer (some a)) 0).run Try.prog w = .ok (.pointer (some (a.add 0))) w := by simp [Instr.fieldAt, run_underlying Try.underlying154, Instr.sureAddr, fieldPlace, Result.andThen]
theorem atS_1 (a : Addr) (w : World) : (Instr.fieldAt 154 (.pointer (some a)) 1).run Try.prog w = .ok (.pointer (some (a.add 1))) w := by simp [Instr.fieldAt, run_underlying Try.underlying154, Instr.sureAddr, fieldPlace, Result.andThen]
theorem sb_size : (Try.prog.info? 154).map (·.size) = some 2 := by kernel_rfl
theorem sb_psize : ∃ j, Try.prog.info? 154 = some j ∧ j.size = 2 := Option.map_eq_some_iff.1 sb_size
theorem en114 : Enters Try.prog 114 := enters_of Try.func114 (by kernel_rfl) rfl
theorem ob_shape {i : Nat} {g : Gh} {w : World} {x : Fv × List UInt8} {b o : Nat} (hb : OB i g w 154 x (.pointer (some ⟨b, o, none⟩))) : o = 0 ∧ w.shape? b = some (154, 2) := by
 obtain ⟨b', cs, hp, _, _, hh, hr⟩ := hb
 injection hp with hp; injection hp with hp; injection hp with h1 h2
 subst h1; subst h2
 have hl := GoT.len hr
 simp [GoT.k] at hl
 exact ⟨rfl, by simp [World.shape?, hh, hl]⟩
/-- (*strings.Builder).copyCheck -/
theorem wk114 {i j : Nat} (hji : Nat.beq j i = false) {g : Gh} {w : World} {a : Fv} {xs : List UInt8} {p : Value} (hb : OB i g w 154 (a, xs) p) (ho : OSF i j 1 g w 5 154 xs p) (ha : a.v = .pointer none ∨ a.v = p) :
  Calls Try.prog 114 #[p] w fun r w' => ∃ v, r = .returned v ∧ ∃ g', Stp i g w g' w' ∧ ∃ a' : Fv, a'.v = p ∧ OB i g' w' 154 (a', xs) p ∧ OSF i j 1 g' w' 5 154 xs p := by
 obtain ⟨b, o, rfl⟩ := hb.ptr
 obtain ⟨hoff, hsh⟩ := ob_shape hb
 subst hoff
 obtain ⟨jt, hj, hjs⟩ := sb_psize
 refine calls_of_E Try.func114 rfl (Nat.le_of_ble_eq_true rfl) ?_
 show E _ 20 none _ _ _ _ _
 refine E_seq (E_region (EL_mw (.pointer (some ⟨b, 0, none⟩)) rfl rfl ?_))
 refine EL_pur (v := .pointer (some ⟨b, 0, none⟩)) (P_nilCheck rfl) .plain rfl ?_
 refine EL_pur (v := fPtr (.pointer (some ⟨b, 0, none⟩)) 0) (P_fieldAddr atS_0 rfl ⟨b, 0, rfl⟩) .plain rfl ?_
 refine EL_do .plain rfl (D_loadF (g := g) (a := (a, xs)) Sub.fst Try.isAgg152 Try.sizeOf152 rfl hb fun v r => ?_)
 obtain rfl := RV_fv.1 r
 rcases ha with ha | ha
 ·refine EL_pur (v := .bool true) (P_ptreq (u2 := .pointer none) (.inl rfl) (show _ = .pointer none from ha) rfl ⟨_, rfl⟩ ⟨_, rfl⟩ (fun w => by simpa using run_eql_pointer_nil (P := Try.prog) w 152 none Try.underlying152)) .plain rfl ?_
  refine EL_nil (thn_n (E_cond_true rfl (E_region ?_)))
  refine EL_mw (.pointer (some ⟨b, 0, none⟩)) rfl rfl ?_
  refine EL_mw (.pointer (some ⟨b, 0, none⟩)) rfl rfl ?_
  refine EL_val (v := .pointer (some ⟨b, 0, none⟩)) (w' := w) .plain (fun _ h => by cases h) rfl (by
   have := Lib.run_to_unsafe w ⟨b, 0, none⟩ Try.underlying152 Try.underlying161 hj (by rw [hjs]; decide) hsh (by show 0 < 2; omega)
   show (Sem.run _ (execOp _ _) _) = _
   simp only [execOp, Sem.run_bind]
   rw [show ev _ (Operand.tmp 8) = Value.pointer (some ⟨b, 0, none⟩) from rfl, this]
   rfl) ?_
  refine EL_pur (v := .pointer (some ⟨b, 0, none⟩)) (P_extern Try.func116 (by kernel_rfl) (by kernel_rfl) (by kernel_rfl) (ex := Extern.AbiNoEscape.same) (by kernel_rfl) (.cons rfl .nil) (fun _ => rfl)) .plain rfl ?_
  refine EL_val (v := .pointer (some ⟨b, 0, none⟩)) (w' := w) .plain (fun _ h => by cases h) rfl (by
   have := Lib.run_from_unsafe w ⟨b, 0, none⟩ Try.underlying161 Try.underlying152 hj hsh (by kernel_rfl)
   show (Sem.run _ (execOp _ _) _) = _
   simp only [execOp, Sem.run_bind]
   rw [show ev _ (Operand.tmp 10) = Value.pointer (some ⟨b, 0, none⟩) from rfl, this]
   rfl) ?_
  refine EL_pur (v := .pointer (some ⟨b, 0, none⟩)) (P_nilCheck rfl) .plain rfl ?_
  refine EL_pur (v := fPtr (.pointer (some ⟨b, 0, none⟩)) 0) (P_fieldAddr atS_0 rfl ⟨b, 0, rfl⟩) .plain rfl ?_
  refine EL_do .plain rfl (D_storeFc (g := g) (a := (a, xs)) (b := (⟨.pointer (some ⟨b, 0, none⟩), rfl⟩ : Fv)) SubS.fst Try.sizeOf152 rfl hb rfl (RV_fv.2 rfl) fun g1 w1 hs b1 rst _ => ?_)
  exact EL_nil (end0n rfl rfl ⟨g1, hs, _, rfl, b1, ho.rest hs rst rfl hji⟩)
 ·refine EL_pur (v := .bool false) (P_ptreq (u2 := .pointer none) (.inl rfl) (show _ = .pointer (some ⟨b, 0, none⟩) from ha) rfl ⟨_, rfl⟩ ⟨_, rfl⟩ (fun w => by simpa using run_eql_pointer_nil (P := Try.prog) w 152 (some ⟨b, 0, none⟩) Try.underlying152)) .plain rfl ?_
  refine EL_nil (thn_n (E_cond_false rfl ?_))
  refine E_seq (E_region (EL_mw (.pointer (some ⟨b, 0, none⟩)) rfl rfl ?_))
  refine EL_pur (v := .pointer (some ⟨b, 0, none⟩)) (P_nilCheck rfl) .plain rfl ?_
  refine EL_pur (v := fPtr (.pointer (some ⟨b, 0, none⟩)) 0) (P_fieldAddr atS_0 rfl ⟨b, 0, rfl⟩) .plain rfl ?_
  refine EL_do .plain rfl (D_loadF (g := g) (a := (a, xs)) Sub.fst Try.isAgg152 Try.sizeOf152 rfl hb fun v r => ?_)
  obtain rfl := RV_fv.1 r
  refine EL_mw (.pointer (some ⟨b, 0, none⟩)) rfl rfl ?_
  refine EL_pur (v := .bool false) (P_ptreq (.inr rfl) (show _ = .pointer (some ⟨b, 0, none⟩) from ha) rfl ⟨_, rfl⟩ ⟨_, rfl⟩ (fun w => Lib.run_neq_ptr_same w ⟨b, 0, none⟩ Try.underlying152 hj)) .plain rfl ?_
  refine EL_nil (thn_n (E_cond_false rfl (E_skip ?_)))
  exact end0n rfl rfl ⟨g, stp_refl _ _ _, _, ha, hb, ho⟩
theorem en109 : Enters Try.prog 109 := enters_of Try.func109 (by kernel_rfl) rfl
/-- (*strings.Builder).WriteByte -/
theorem wk109 {i j : Nat} (hji : Nat.beq j i = false) (hij : Nat.beq i j = false) {g : Gh} {w : World} {c : UInt8} {xs r : List UInt8} {p : Value} (hsb : SB i j g w 5 154 xs p) (hr : apnd 1 xs [c] = some r) :
  Calls Try.prog 109 #[p, .int .u8 c.toNat] w fun q w' => ∃ v, q = .returned v ∧ v = .nilIface ∧ WB i j g w 5 154 r p w' := by
 obtain ⟨a, hb, ho, ha⟩ := hsb
 obtain ⟨b, o, rfl⟩ := hb.ptr
 obtain ⟨hoff, hsh⟩ := ob_shape hb
 subst hoff
 refine calls_of_E Try.func109 rfl (Nat.le_of_ble_eq_true rfl) ?_
 show E _ 17 none _ _ _ _ _
 refine E_seq (E_region (EL_at (.nilIface) rfl rfl ?_))
 refine EL_nil (thn_n (E_seq (E_region (EL_mw (.pointer (some ⟨b, 0, none⟩)) rfl rfl ?_))))
 refine EL_do .plain rfl (D_callC (vs := [.pointer (some ⟨b, 0, none⟩)]) en114 (.cons rfl .nil) (wk114 hji hb ho ha) fun v w1 h1 => ?_)
 obtain ⟨g1, hs1, a1, ha1, hb1, ho1⟩ := h1
 refine EL_nil (thn_n (E_seq (E_region (EL_mw (.pointer (some ⟨b, 0, none⟩)) rfl rfl ?_))))
 refine EL_mw (.pointer (some ⟨b, 0, none⟩)) rfl rfl ?_
 refine EL_pur (v := .pointer (some ⟨b, 0, none⟩)) (P_nilCheck rfl) .plain rfl ?_
 refine EL_pur (v := fPtr (.pointer (some ⟨b, 0, none⟩)) 1) (P_fieldAddr atS_1 rfl ⟨b, 0, rfl⟩) .plain rfl ?_
 refine EL_do .plain rfl (D_loadFS (g := g1) (a := (a1, xs)) (f := Prod.snd) Sub.snd Try.isAgg80 Try.sizeOf80 rfl hb1 ho1 fun v2 r2 o2 => ?_)
 refine EL_mw (.int .u8 c.toNat) rfl rfl ?_
 refine EL_do .plain rfl (D_buildSlice (g := g1) 1 (xs := [c]) (vs := [.int .u8 c.toNat]) Try.underlying80 Try.sizeOf5 Try.zeroValue5 rfl rfl (.cons rfl .nil) (RVs.cons (RV_u8.2 rfl) RVs.nil) rfl rfl fun g3 w3 v3 _ _ r3 hxt _ => ?_)
 refine EL_do .plain rfl (D_append (g := g3) (i := j) Try.underlying80 info_5 rfl rfl (o2.ext hxt) (r2.ext hxt) rfl r3 hr fun g4 w4 v4 hs4 o4 r4 _ => ?_)
 have j0 := (hb1.ext hxt).stp hs4 hij
 refine EL_pur (v := .pointer (some ⟨b, 0, none⟩)) (P_nilCheck rfl) .plain rfl ?_
 refine EL_pur (v := fPtr (.pointer (some ⟨b, 0, none⟩)) 1) (P_fieldAddr atS_1 rfl ⟨b, 0, rfl⟩) .plain rfl ?_
 refine EL_do .plain rfl (D_storeFc (g := g4) (a := (a1, xs)) SubS.snd Try.sizeOf80 rfl j0 rfl r4 fun g5 w5 hs5 b5 _ hos => ?_)
 have o5 := hos _ _ j 5 r (rv_cells1 r4) hji o4
 refine EL_nil (thn_n (E_seq (E_region (EL_at (.nilIface) rfl rfl ?_))))
 refine EL_nil (thn_n (E_ret (end1 rfl rfl (show _ = .nilIface from rfl) ⟨rfl, g5, ⟨g1, w1, g4, w4, hs1, (hxt.stp.trans hs4), hs5⟩, a1, b5, o5, .inr ha1⟩)))
theorem en112 : Enters Try.prog 112 := enters_of Try.func112 (by kernel_rfl) rfl
theorem mixedS : Try.prog.follows .mixedOrders = true := by kernel_rfl
/-- (*strings.Builder).String, of a builder that holds some byte -/
theorem wk112 {i j : Nat} (_hij : Nat.beq i 0 = false) {g : Gh} {w : World} {xs : List UInt8} {p : Value} (hsb : SB i j g w 5 154 xs p) (h0 : xs ≠ []) :
  Calls Try.prog 112 #[p] w fun q w' => ∃ v, q = .returned v ∧ GS j g w xs v w' := by
 obtain ⟨a, hb, ho, ha⟩ := hsb
 obtain ⟨b, o, rfl⟩ := hb.ptr
 obtain ⟨hoff, hsh⟩ := ob_shape hb
 subst hoff
 refine calls_of_E Try.func112 rfl (Nat.le_of_ble_eq_true rfl) ?_
 show E _ 14 none _ _ _ _ _
 refine E_seq (E_region (EL_at (Str.v ⟨[]⟩) rfl rfl ?_))
 refine EL_nil (thn_n (L_loadFSx (f := Prod.snd) (a := (a, xs)) Sub.snd Try.isAgg80 Try.sizeOf80 hb ho fun v r os hl => ?_))
 obtain ⟨sa, c, rfl, hc, _⟩ := RV_list r
 have hne : c ≠ 0 := by
  have : 0 < xs.length := by cases xs with
   | nil => exact absurd rfl h0
   | cons _ _ => simp
  have hc' : xs.length ≤ c := hc
  omega
 refine E_seq (E_drawL (g := g) (n := 10) [] [0, 1, 2, 3, 4, 5, 6, 7, 8, 9] rfl mixedS (by kernel_rfl) trivial ?_)
 refine L_pur (c := .pointer (some ⟨b, 0, none⟩)) rfl rfl .plain (fun _ _ hd => P_move rfl) ?_
 refine L_pur (c := .pointer (some ⟨b, 0, none⟩)) rfl rfl .plain (fun _ _ hd => P_nilCheck rfl) ?_
 refine L_pur (c := fPtr (.pointer (some ⟨b, 0, none⟩)) 1) rfl rfl .plain (fun _ _ hd => P_fieldAddr atS_1 rfl ⟨b, 0, rfl⟩) ?_
 refine L_ld (c := .slice sa xs.length c) rfl rfl .plain (fun _ _ h => ⟨h.ch, fun b hb _ => h.below.block b hb⟩) (hl _) rfl ?_
 refine L_pur (c := .pointer sa) rfl rfl .plain (fun _ _ hd => P_sliceData (a := sa) (n := xs.length) (c := c) rfl (.inl hne)) ?_
 refine L_pur (c := .pointer (some ⟨b, 0, none⟩)) rfl rfl .plain (fun _ _ hd => P_move rfl) ?_
 refine L_pur (c := .pointer (some ⟨b, 0, none⟩)) rfl rfl .plain (fun _ _ hd => P_nilCheck rfl) ?_
 refine L_pur (c := fPtr (.pointer (some ⟨b, 0, none⟩)) 1) rfl rfl .plain (fun _ _ hd => P_fieldAddr atS_1 rfl ⟨b, 0, rfl⟩) ?_
 refine L_ld (c := .slice sa xs.length c) rfl rfl .plain (fun _ _ h => ⟨h.ch, fun b hb _ => h.below.block b hb⟩) (hl _) rfl ?_
 refine L_pur (c := .int .i64 (xs.length : Int)) rfl rfl .plain (fun _ _ hd => P_len (v := .slice sa xs.length c) Try.underlying80 rfl r) ?_
 refine L_nil fun g1 w1 hall => ?_
 have hs := hall.1
 refine EL_do .plain rfl (D_unsafeString (g := g1) (j := j) (et := 5) rfl Try.underlying160 (by kernel_rfl) h0 rfl rfl (os.ext hs) (r.ext hs) fun g2 w2 hs2 => ?_)
 refine EL_at (Str.v ⟨xs⟩) rfl rfl ?_
 exact EL_nil (thn_n (E_ret (end1 rfl rfl (show _ = Str.v ⟨xs⟩ from rfl) ⟨rfl, g2, hs.stp.trans hs2⟩)))
/-- griffe/griffelaw05.large -/
def f14 (x0 : FaultLoom) : Option (Bool) :=
 Option.bind (α := Bool) (
  bif (decide (((((x0).Harness).Warps).length : Int) > (110 : Int))) then
   some (true)
  else
   some ((decide (((((x0).Design).Rows).length : Int) > (70 : Int))))
  ) fun n0 =>
 some (n0)
theorem en14 : Enters Try.prog 14 := enters_of Try.func14 (by kernel_rfl) rfl
theorem wk14 {gI : Gh} {wI : World} {x0 : FaultLoom} {up0 : Value} (rp0 : RV gI.m wI x0 up0) {r : Bool} (h : f14 x0 = some r) : Fn Try.prog 14 #[up0] gI wI (fun _ _ v => v = .bool (r)) := by
 unfold f14 at h
 refine fn_of_E Try.func14 rfl (Nat.le_of_ble_eq_true rfl) fun g0 hm hfr => ?_
 have rp0 : RV g0.m wI x0 up0 := hm ▸ rp0
 show E _ 15 none _ _ _ _ _
 refine E_seq (E_region (EL_do .plain rfl (D_box (g := g0) rfl rp0 fun g1 w1 p1 hs q1 => ?_)))
 have hfr := hfr.ext hs
 refine EL_at (.bool false) rfl rfl ?_
 refine EL_nil (thn_n ?_)
 obtain ⟨n0, hx, h⟩ := bsome h
 refine E_join (fun e w => ∃ (g : Gh) , Fr gI wI g w ∧ e 2 = .bool (n0)) (fun Q' hQ => ?_) (fun d2 i2 hR => ?_)
 ·replace h := hx
  clear hx
  refine E_region (EL_pur (v := fPtr p1 0) (P_fieldAddr at_28_0 rfl (PT.ptr q1)) .plain rfl ?_)
  have q9 := PT_field (part_FaultLoom_0).1 q1
  refine EL_pur (v := fPtr (fPtr p1 0) 1) (P_fieldAddr at_24_1 rfl (PT.ptr q9)) .plain rfl ?_
  have y0 := PT_field (part_TieHarness_1).1 q9
  refine EL_do .plain rfl (D_load (g := g1) Try.isAgg22 Try.sizeOf22 rfl y0 fun j2 i1 => ?_)
  refine EL_pur (v := .int .i64 ((((x0).Harness).Warps).length : Int)) (P_len Try.underlying22 rfl i1) .plain rfl ?_
  refine EL_pur (v := .bool ((decide (((((x0).Harness).Warps).length : Int) > (110 : Int))))) (P_int rfl rfl rfl) .plain rfl ?_
  refine EL_pur (v := .bool ((decide (((((x0).Harness).Warps).length : Int) > (110 : Int))))) (P_move rfl) .plain rfl ?_
  rcases csome h with ⟨j0, h⟩ | ⟨j0, h⟩
  ·refine EL_skip (.no2 rfl rfl j0 rfl) rfl ?_
   refine EL_skip (.no2 rfl rfl j0 rfl) rfl ?_
   refine EL_skip (.no2 rfl rfl j0 rfl) rfl ?_
   refine EL_skip (.no2 rfl rfl j0 rfl) rfl ?_
   refine EL_skip (.no2 rfl rfl j0 rfl) rfl ?_
   refine EL_pur (v := .bool true) (P_pick (b := (decide (((((x0).Harness).Warps).length : Int) > (110 : Int)))) rfl (pick_t j0 rfl)) .plain rfl ?_
   refine EL_at (.bool true) rfl rfl ?_
   refine EL_nil ?_
   obtain rfl := sinj h
   exact hQ _ _ ⟨g1, hfr, rfl⟩
  ·refine EL_pur (v := fPtr p1 2) (P_fieldAddr at_28_1 rfl (PT.ptr q1)) (.yes2 rfl rfl j0) rfl ?_
   have u0 := PT_field (part_FaultLoom_1).1 q1
   refine EL_pur (v := fPtr (fPtr p1 2) 1) (P_fieldAddr at_26_1 rfl (PT.ptr u0)) (.yes2 rfl rfl j0) rfl ?_
   have j1 := PT_field (part_Design_1).1 u0
   refine EL_do (.yes2 rfl rfl j0) rfl (D_load (g := g1) Try.isAgg22 Try.sizeOf22 rfl j1 fun q2 z1 => ?_)
   refine EL_pur (v := .int .i64 ((((x0).Design).Rows).length : Int)) (P_len Try.underlying22 rfl z1) (.yes2 rfl rfl j0) rfl ?_
   refine EL_pur (v := .bool ((decide (((((x0).Design).Rows).length : Int) > (70 : Int))))) (P_int rfl rfl rfl) (.yes2 rfl rfl j0) rfl ?_
   refine EL_pur (v := .bool ((decide (((((x0).Design).Rows).length : Int) > (70 : Int))))) (P_pick (b := (decide (((((x0).Harness).Warps).length : Int) > (110 : Int)))) rfl (pick_f j0 rfl)) .plain rfl ?_
   refine EL_pur (v := .bool ((decide (((((x0).Design).Rows).length : Int) > (70 : Int))))) (P_assign rfl) .plain rfl ?_
   refine EL_nil ?_
   obtain rfl := sinj h
   exact hQ _ _ ⟨g1, hfr, rfl⟩
 ·clear hx
  obtain ⟨s2, hfr, o0⟩ := hR
  refine E_ret ?_
  obtain rfl := sinj h
  exact end1 rfl rfl (show _ = .bool (n0) from o0) ⟨_, hfr, rfl⟩
/-- griffe/grifferef05.Copy -/
def f16 (x0 : FaultLoom) : Option (FaultLoom) :=
 (apnd 8 (([] : List Int)) (((x0).Harness).Warps)).bind fun y8 =>
 (apnd 8 (([] : List Int)) (((x0).Design).Rows)).bind fun j0 =>
 some ({ { x0 with Harness := { (x0).Harness with Warps := y8 } } with Design := { ({ x0 with Harness := { (x0).Harness with Warps := y8 } }).Design with Rows := j0 } })
theorem en16 : Enters Try.prog 16 := enters_of Try.func16 (by kernel_rfl) rfl
theorem wk16 {gI : Gh} {wI : World} {x0 : FaultLoom} {up0 : Value} (rp0 : RV gI.m wI x0 up0) {r : FaultLoom} (h : f16 x0 = some r) : Fn Try.prog 16 #[up0] gI wI (fun m w v => RV m w (r) v) := by
 unfold f16 at h
 refine fn_of_E Try.func16 rfl (Nat.le_of_ble_eq_true rfl) fun g0 hm hfr => ?_
 have rp0 : RV g0.m wI x0 up0 := hm ▸ rp0
 show E _ 18 none _ _ _ _ _
 refine E_seq (E_region (EL_do .plain rfl (D_boxO (g := g0) 2001 rfl rp0 fun g1 w1 p1 hs b1 => ?_)))
 have hfr := hfr.stp hs
 refine EL_do .plain rfl (D_allocOc (g := g1) 2002 (⟨⟨0, []⟩, ⟨0, []⟩⟩ : FaultLoom) Try.zeroValue28 (fun m w => ⟨_, (rep_two (rep_two rep_int rep_nil) (rep_two rep_int rep_nil)), rfl⟩) fun g2 w2 p2 hs b2 cb => ?_)
 have hfr := hfr.stp hs
 have b1 := b1.stp hs rfl
 have p3 : OSF 2002 60201 1 g2 w2 3 28 ([] : List Int) p2 := cb.osf (by rfl)
 have q3 : OSF 2002 60203 3 g2 w2 3 28 ([] : List Int) p2 := cb.osf (by rfl)
 clear cb
 refine EL_nil (thn_n (E_seq (L_loadO (x := .tmp 5) (SubS.comp part_FaultLoom_0 part_TieHarness_1 rfl).1 Try.isAgg22 Try.sizeOf22 b1 fun v6 r6 i2 => ?_)))
 obtain ⟨y8, j2, h⟩ := bsome h
 refine L_loadO (x := .tmp 10) (SubS.comp part_FaultLoom_1 part_Design_1 rfl).1 Try.isAgg22 Try.sizeOf22 b1 fun q2 s2 j1 => ?_
 obtain ⟨j0, z1, h⟩ := bsome h
 refine E_drawL (g := g2) (n := 12) [(0, (fun v g w => RV g.m w ([] : List Int) v ∧ OS 3003 g w 3 ([] : List Int) v ∧ FullV v)), (4, (fun v g w => RV g.m w y8 v ∧ OS 3003 g w 3 y8 v)), (5, (fun v g w => RV g.m w ([] : List Int) v ∧ OS 3008 g w 3 ([] : List Int) v ∧ FullV v)), (9, (fun v g w => RV g.m w j0 v ∧ OS 3008 g w 3 j0 v))] [0, 1, 2, 3, 4, 5, 6, 7, 8, 9, 10, 11] rfl mixed (by kernel_rfl) (⟨fun _ => up_and up_rv (up_and up_os (up_eq _)), fun _ => up_and up_rv up_os, fun _ => up_and up_rv (up_and up_os (up_eq _)), fun _ => up_and up_rv up_os, trivial⟩) ?_
 refine L_do (φ := fun v g w => RV g.m w ([] : List Int) v ∧ OS 3003 g w 3 ([] : List Int) v ∧ FullV v) rfl rfl .plain (fun g w hd => D_buildSlice (g := g) 3003 (xs := ([] : List Int)) (vs := []) Try.underlying22 Try.sizeOf3 Try.zeroValue3 rfl rfl .nil RVs.nil rfl rfl fun g' w' v hs o r hxt hfl => ⟨g', hxt, r, o, hfl⟩) (fun v3 hv => ?_)
 clear hv
 refine L_pur (c := fPtr p1 0) rfl rfl .plain (fun _ _ hd => P_fieldAddr at_28_0 rfl (OB.ptr b1)) ?_
 refine L_pur (c := fPtr p1 1) rfl rfl .plain (fun _ _ hd => P_fieldAddr2 (o1 := 0) rfl at_24_1 rfl (OB.ptr b1)) ?_
 refine L_ld (c := v6) rfl rfl .plain (fun _ _ h => ⟨h.ch, fun b hb _ => h.below.block b hb⟩) i2 rfl ?_
 refine L_do (φ := fun v g w => RV g.m w y8 v ∧ OS 3003 g w 3 y8 v) rfl rfl .plain (fun g w hd => D_append (g := g) (i := 3003) Try.underlying22 info_3 rfl rfl (word (A := fun g w => RV g.m w ([] : List Int) v3 ∧ OS 3003 g w 3 ([] : List Int) v3 ∧ FullV v3) 0 rfl rfl (deps_of hd)).2.1 (word (A := fun g w => RV g.m w ([] : List Int) v3 ∧ OS 3003 g w 3 ([] : List Int) v3 ∧ FullV v3) 0 rfl rfl (deps_of hd)).1 rfl (r6.ext hd.1) j2 fun g' w' v hs o r hf => ⟨g', hf (word (A := fun g w => RV g.m w ([] : List Int) v3 ∧ OS 3003 g w 3 ([] : List Int) v3 ∧ FullV v3) 0 rfl rfl (deps_of hd)).2.2, r, o⟩) (fun v7 hv => ?_)
 clear hv
 refine L_do (φ := fun v g w => RV g.m w ([] : List Int) v ∧ OS 3008 g w 3 ([] : List Int) v ∧ FullV v) rfl rfl .plain (fun g w hd => D_buildSlice (g := g) 3008 (xs := ([] : List Int)) (vs := []) Try.underlying22 Try.sizeOf3 Try.zeroValue3 rfl rfl .nil RVs.nil rfl rfl fun g' w' v hs o r hxt hfl => ⟨g', hxt, r, o, hfl⟩) (fun v9 hv => ?_)
 clear hv
 refine L_pur (c := fPtr p1 2) rfl rfl .plain (fun _ _ hd => P_fieldAddr at_28_1 rfl (OB.ptr b1)) ?_
 refine L_pur (c := fPtr p1 3) rfl rfl .plain (fun _ _ hd => P_fieldAddr2 (o1 := 2) rfl at_26_1 rfl (OB.ptr b1)) ?_
 refine L_ld (c := q2) rfl rfl .plain (fun _ _ h => ⟨h.ch, fun b hb _ => h.below.block b hb⟩) j1 rfl ?_
 refine L_do (φ := fun v g w => RV g.m w j0 v ∧ OS 3008 g w 3 j0 v) rfl rfl .plain (fun g w hd => D_append (g := g) (i := 3008) Try.underlying22 info_3 rfl rfl (word (A := fun g w => RV g.m w ([] : List Int) v9 ∧ OS 3008 g w 3 ([] : List Int) v9 ∧ FullV v9) 5 rfl rfl (deps_of hd)).2.1 (word (A := fun g w => RV g.m w ([] : List Int) v9 ∧ OS 3008 g w 3 ([] : List Int) v9 ∧ FullV v9) 5 rfl rfl (deps_of hd)).1 rfl (s2.ext hd.1) z1 fun g' w' v hs o r hf => ⟨g', hf (word (A := fun g w => RV g.m w ([] : List Int) v9 ∧ OS 3008 g w 3 ([] : List Int) v9 ∧ FullV v9) 5 rfl rfl (deps_of hd)).2.2, r, o⟩) (fun n0 hv => ?_)
 clear hv
 refine L_pur (c := fPtr p1 0) rfl rfl .plain (fun _ _ hd => P_fieldAddr at_28_0 rfl (OB.ptr b1)) ?_
 refine L_pur (c := fPtr p1 1) rfl rfl .plain (fun _ _ hd => P_fieldAddr2 (o1 := 0) rfl at_24_1 rfl (OB.ptr b1)) ?_
 refine L_nil fun z2 s3 hall => ?_
 have hs := hall.1
 have hfr := hfr.ext hs
 have b1 := b1.ext hs
 have b2 := b2.ext hs
 have u3 := (word_all (A := fun g w => RV g.m w ([] : List Int) v3 ∧ OS 3003 g w 3 ([] : List Int) v3 ∧ FullV v3) 0 rfl hall).1
 have o21 := (word_all (A := fun g w => RV g.m w ([] : List Int) v3 ∧ OS 3003 g w 3 ([] : List Int) v3 ∧ FullV v3) 0 rfl hall).2.1
 have y0 := (word_all (A := fun g w => RV g.m w y8 v7 ∧ OS 3003 g w 3 y8 v7) 4 rfl hall).1
 have o25 := (word_all (A := fun g w => RV g.m w y8 v7 ∧ OS 3003 g w 3 y8 v7) 4 rfl hall).2
 have z3 := (word_all (A := fun g w => RV g.m w ([] : List Int) v9 ∧ OS 3008 g w 3 ([] : List Int) v9 ∧ FullV v9) 5 rfl hall).1
 have o26 := (word_all (A := fun g w => RV g.m w ([] : List Int) v9 ∧ OS 3008 g w 3 ([] : List Int) v9 ∧ FullV v9) 5 rfl hall).2.1
 have o0 := (word_all (A := fun g w => RV g.m w j0 n0 ∧ OS 3008 g w 3 j0 n0) 9 rfl hall).1
 have o30 := (word_all (A := fun g w => RV g.m w j0 n0 ∧ OS 3008 g w 3 j0 n0) 9 rfl hall).2
 clear hs hall
 refine EL_do .plain rfl (D_storeFc (g := z2) (SubS.comp part_FaultLoom_0 part_TieHarness_1 rfl) Try.sizeOf22 rfl b1 rfl y0 fun d3 c4 hs b33 rst hos => ?_)
 have u0 := hos _ _ 3003 3 (y8 : List Int) (rv_cells1 y0) rfl o25
 clear rst hos
 have hfr := hfr.stp hs
 have b2 := b2.stp hs rfl
 have o0 := o0.stp hs
 have o30 := o30.stp hs rfl
 refine EL_pur (v := fPtr p1 2) (P_fieldAddr at_28_1 rfl (OB.ptr b33)) .plain rfl ?_
 refine EL_pur (v := fPtr p1 3) (P_fieldAddr2 (o1 := 2) rfl at_26_1 rfl (OB.ptr b33)) .plain rfl ?_
 refine EL_do .plain rfl (D_storeFc (g := d3) (SubS.comp part_FaultLoom_1 part_Design_1 rfl) Try.sizeOf22 rfl b33 rfl o0 fun i1 d4 hs b36 rst hos => ?_)
 have u0 := u0.rest hs rst
 have o3 := hos _ _ 3008 3 (j0 : List Int) (rv_cells1 o0) rfl o30
 clear rst hos
 have hfr := hfr.stp hs
 have b2 := b2.stp hs rfl
 refine EL_nil (thn_n (E_seq (E_region (EL_do .plain rfl (D_loadO (g := i1) Try.isAgg28 Try.sizeOf28 rfl b36 fun i3 j3 => ?_)))))
 refine EL_do .plain rfl (D_storeOc (g := i1) (v := i3) Try.sizeOf28 rfl b2 rfl j3 fun i4 j4 hs b38 cb => ?_)
 clear cb
 have hfr := hfr.stp hs
 refine EL_nil (thn_n (E_ret ?_))
 obtain rfl := sinj h
 obtain ⟨ad39, cv39, hp39, d2, cr39⟩ := ob_read Try.isAgg28 Try.sizeOf28 b38
 exact endm_c rfl rfl ((show _ = p2 from rfl).trans hp39) d2 ⟨_, hfr, cr39⟩
/-- griffe/griffelaw05.own -/
def f17 (x0 : List FaultDamage) : Option ((List FaultDamage)) :=
 (apnd 40 (([] : List FaultDamage)) x0).bind fun y3 =>
 some (y3)
theorem en17 : Enters Try.prog 17 := enters_of Try.func17 (by kernel_rfl) rfl
theorem wk17 {gI : Gh} {wI : World} {x0 : List FaultDamage} {up0 : Value} (rp0 : RV gI.m wI x0 up0) {r : (List FaultDamage)} (h : f17 x0 = some r) : Fn Try.prog 17 #[up0] gI wI (fun m w v => RV m w (r) v) := by
 unfold f17 at h
 refine fn_of_E Try.func17 rfl (Nat.le_of_ble_eq_true rfl) fun g0 hm hfr => ?_
 have rp0 : RV g0.m wI x0 up0 := hm ▸ rp0
 show E _ 6 none _ _ _ _ _
 refine E_seq (E_region (EL_at (.slice none 0 0) rfl rfl ?_))
 refine EL_nil (thn_n (E_seq (E_region (EL_do .plain rfl (D_buildSlice (g := g0) 3003 (xs := ([] : List FaultDamage)) (vs := []) Try.underlying29 Try.sizeOf62 Try.zeroValue62 rfl rfl .nil RVs.nil rfl rfl fun g1 w1 v1 hs o1 r1 hxt hfl => ?_)))))
 have hfr := hfr.stp hs
 have rp0 := rp0.stp hs
 refine EL_mw up0 rfl rfl ?_
 obtain ⟨y3, j0, h⟩ := bsome h
 refine EL_do .plain rfl (D_append (g := g1) (i := 3003) Try.underlying29 info_62 rfl rfl o1 r1 rfl rp0 j0 fun g2 w2 v2 hs o2 r2 _ => ?_)
 have hfr := hfr.stp hs
 refine EL_at v2 rfl rfl ?_
 refine EL_nil (thn_n (E_ret ?_))
 obtain rfl := sinj h
 exact end1 rfl rfl (show _ = v2 from rfl) ⟨_, hfr, r2⟩
/-- griffe/grifferef05.Same -/
def f22 (x0 : List FaultDamage) (x1 : List FaultDamage) : Option (Bool) :=
 jn (σ := Unit) (fun (_ : Unit) =>
  jn (σ := Unit) (fun (_ : Unit) =>
   some (true)
   ) fun z3 =>
  lp (σ := Int) (fun c4 j0 =>
   jn (σ := Unit) (fun (_ : Unit) =>
    jn (σ := Unit) (fun (_ : Unit) =>
     c4 ((w64 (j0 + (1 : Int))))
     ) fun d4 =>
    (idx x0 j0).bind fun q2 =>
    (idx x1 j0).bind fun s2 =>
    bif (!(decide (q2 = s2))) then
     some (false)
    else
     d4 ()
    ) fun i4 =>
   bif (decide (j0 < ((x0).length : Int))) then
    i4 ()
   else
    z3 ()
   ) big ((0 : Int))
  ) fun k2 =>
 bif (((x0).length : Int) != ((x1).length : Int)) then
  some (false)
 else
  k2 ()
theorem en22 : Enters Try.prog 22 := enters_of Try.func22 (by kernel_rfl) rfl
theorem wk22 {gI : Gh} {wI : World} {x0 : List FaultDamage} {x1 : List FaultDamage} {up0 : Value} (rp0 : RV gI.m wI x0 up0) {up1 : Value} (rp1 : RV gI.m wI x1 up1) {r : Bool} (h : f22 x0 x1 = some r) : Fn Try.prog 22 #[up0, up1] gI wI (fun _ _ v => v = .bool (r)) := by
 unfold f22 at h
 refine fn_of_E Try.func22 rfl (Nat.le_of_ble_eq_true rfl) fun g0 hm hfr => ?_
 have rp0 : RV g0.m wI x0 up0 := hm ▸ rp0
 have rp1 : RV g0.m wI x1 up1 := hm ▸ rp1
 show E _ 26 none _ _ _ _ _
 refine E_seq (E_region (EL_at (.bool false) rfl rfl ?_))
 refine EL_nil (thn_n (E_joinC h (fun (s : Unit) e w => ∃ (g : Gh) , Fr gI wI g w ∧ e 0 = up0 ∧ RV g.m w (x0 : List FaultDamage) up0 ∧ e 1 = up1 ∧ RV g.m w (x1 : List FaultDamage) up1) (fun X2 k2 hk2 h => ?_) ?_))
 ·refine E_seq (E_region (EL_mw up0 rfl rfl ?_))
  refine EL_pur (v := .int .i64 ((x0).length : Int)) (P_len Try.underlying29 rfl rp0) .plain rfl ?_
  refine EL_mw up1 rfl rfl ?_
  refine EL_pur (v := .int .i64 ((x1).length : Int)) (P_len Try.underlying29 rfl rp1) .plain rfl ?_
  refine EL_in (.bool ((((x0).length : Int) != ((x1).length : Int)))) rfl rfl rfl rfl ?_
  refine EL_nil (thn_n ?_)
  rcases csome h with ⟨hc3, h⟩ | ⟨hc3, h⟩
  ·refine E_ct hc3 rfl ?_
   refine E_seq (E_region (EL_at (.bool false) rfl rfl ?_))
   refine EL_nil (thn_n (E_ret (thn_r ?_)))
   obtain rfl := sinj h
   exact end1 rfl rfl (show _ = .bool false from rfl) ⟨_, hfr, rfl⟩
  ·refine E_cf hc3 rfl ?_
   exact E_skip (thn_n (hk2 () _ _ ⟨g0, hfr, rfl, rp0, rfl, rp1⟩ h))
 ·rintro _ d6 w4 ⟨g4, hfr, m4, n4, o4, p4⟩ h
  refine E_joinC h (fun (s : Unit) e w => ∃ (g : Gh) , Fr gI wI g w) (fun X53 z3 q4 h => ?_) ?_
  ·refine E_seq (E_region (EL_at (.int .i64 (0)) rfl rfl ?_))
   refine EL_nil (thn_n (E_block ?_))
   refine E_lp h (fun (s : Int) e w => ∃ (g : Gh) , Fr gI wI g w ∧ e 0 = up0 ∧ RV g.m w (x0 : List FaultDamage) up0 ∧ e 1 = up1 ∧ RV g.m w (x1 : List FaultDamage) up1 ∧ e 5 = .int .i64 (s)) ⟨g4, hfr, m4, n4, o4, p4, rfl⟩ (fun X54 c4 u4 => ?_)
   rintro j0 y5 e6 ⟨j4, hfr, j1, z1, s3, u3, d2⟩ h
   refine E_joinC h (fun (s : Unit) e w => ∃ (g : Gh) , Fr gI wI g w ∧ e 0 = up0 ∧ RV g.m w (x0 : List FaultDamage) up0 ∧ e 1 = up1 ∧ RV g.m w (x1 : List FaultDamage) up1 ∧ e 5 = .int .i64 (j0)) (fun X57 i4 x4 h => ?_) ?_
   ·refine E_seq (E_region (EL_mv d2 rfl ?_))
    refine EL_mv j1 rfl ?_
    refine EL_pur (v := .int .i64 ((x0).length : Int)) (P_len Try.underlying29 rfl z1) .plain rfl ?_
    refine EL_in (.bool ((decide (j0 < ((x0).length : Int))))) rfl rfl rfl rfl ?_
    refine EL_nil (thn_n ?_)
    rcases csome h with ⟨i1, h⟩ | ⟨i1, h⟩
    ·refine E_ct i1 rfl ?_
     exact E_skip (thn_n (x4 () _ _ ⟨j4, hfr, j1, z1, s3, u3, d2⟩ h))
    ·refine E_cf i1 rfl ?_
     refine E_exit ?_
     refine thn_e ?_
     refine thn_e ?_
     refine blk_hit ?_
     exact thn_n (q4 () _ _ ⟨j4, hfr⟩ h)
   ·rintro _ z5 i6 ⟨j5, hfr, i2, n0, j2, o0, u0⟩ h
    refine E_joinC h (fun (s : Unit) e w => ∃ (g : Gh) , Fr gI wI g w ∧ e 0 = up0 ∧ RV g.m w (x0 : List FaultDamage) up0 ∧ e 1 = up1 ∧ RV g.m w (x1 : List FaultDamage) up1 ∧ e 5 = .int .i64 (j0)) (fun X80 d4 z4 h => ?_) ?_
    ·refine E_block ?_
     refine E_seq ?_
     obtain ⟨q2, z2, h⟩ := bsome h
     have l5 := PT_idx n0 z2
     refine L_load (x := .tmp 19) Try.isAgg62 Try.sizeOf62 l5 fun m5 n5 c5 => ?_
     obtain ⟨s2, d3, h⟩ := bsome h
     have o5 := PT_idx o0 d3
     refine L_load (x := .tmp 23) Try.isAgg62 Try.sizeOf62 o5 fun p5 q5 d5 => ?_
     refine E_drawL (g := j5) (n := 9) [] [0, 1, 2, 3, 4, 5, 6, 7, 8] rfl mixed (by kernel_rfl) trivial ?_
     refine L_pur (c := up0) rfl rfl .plain (fun _ _ hd => P_move i2) ?_
     refine L_pur (c := .int .i64 (j0)) rfl rfl .plain (fun _ _ hd => P_move u0) ?_
     refine L_pur (c := ePtr up0 j0 5) rfl rfl .plain (fun _ _ hd => P_indexAddr (α := FaultDamage) Try.underlying29 Try.sizeOf62 rfl n0 rfl z2) ?_
     refine L_ld (c := m5) rfl rfl .plain (fun _ _ h => h.ch) c5 rfl ?_
     refine L_pur (c := up1) rfl rfl .plain (fun _ _ hd => P_move j2) ?_
     refine L_pur (c := .int .i64 (j0)) rfl rfl .plain (fun _ _ hd => P_move u0) ?_
     refine L_pur (c := ePtr up1 j0 5) rfl rfl .plain (fun _ _ hd => P_indexAddr (α := FaultDamage) Try.underlying29 Try.sizeOf62 rfl o0 rfl d3) ?_
     refine L_ld (c := p5) rfl rfl .plain (fun _ _ h => h.ch) d5 rfl ?_
     refine L_pur (c := .bool ((!(decide (q2 = s2))))) rfl rfl .plain (fun _ _ hd => P_sne seq_62 rfl eg_62 rfl rfl n5 q5) ?_
     refine L_nil fun t5 j6 hall => ?_
     have hs := hall.1
     have hfr := hfr.ext hs
     have n0 := n0.ext hs
     have o0 := o0.ext hs
     clear hs hall
     refine EL_nil (thn_n ?_)
     rcases csome h with ⟨y0, h⟩ | ⟨y0, h⟩
     ·refine E_ct y0 rfl ?_
      refine E_seq (E_region (EL_at (.bool false) rfl rfl ?_))
      refine EL_nil (thn_n (E_ret (blk_r ?_)))
      refine thn_r ?_
      refine thn_r ?_
      refine blk_r ?_
      refine thn_r ?_
      obtain rfl := sinj h
      exact end1 rfl rfl (show _ = .bool false from rfl) ⟨_, hfr, rfl⟩
     ·refine E_cf y0 rfl ?_
      exact E_skip (blk_n (thn_n (z4 () _ _ ⟨t5, hfr, i2, n0, j2, o0, u0⟩ h)))
    ·rintro _ u5 a6 ⟨i5, hfr, i3, j3, o3, p3, q3⟩ h
     refine E_region (EL_mv q3 rfl ?_)
     refine EL_in (.int .i64 ((w64 (j0 + (1 : Int))))) rfl rfl rfl rfl ?_
     refine EL_at (.int .i64 ((w64 (j0 + (1 : Int))))) rfl rfl ?_
     exact EL_nil (thn_n (u4 ((w64 (j0 + (1 : Int)))) _ _ ⟨i5, hfr, i3, j3, o3, p3, rfl⟩ h))
  ·rintro _ x5 b6 ⟨c6, hfr⟩ h
   refine E_seq (E_region (EL_at (.bool true) rfl rfl ?_))
   refine EL_nil (thn_n (E_ret ?_))
   obtain rfl := sinj h
   exact end1 rfl rfl (show _ = .bool true from rfl) ⟨_, hfr, rfl⟩
/-- griffe/grifferef05.In -/
def f24 (x0 : Int) (x1 : Int) (x2 : Int) : Option (Bool) :=
 Option.bind (α := Bool) (
  bif (decide (x0 ≥ x1)) then
   some ((decide (x0 ≤ x2)))
  else
   some (false)
  ) fun j0 =>
 some (j0)
theorem en24 : Enters Try.prog 24 := enters_of Try.func24 (by kernel_rfl) rfl
theorem wk24 {gI : Gh} {wI : World} {x0 : Int} {x1 : Int} {x2 : Int}  {r : Bool} (h : f24 x0 x1 x2 = some r) : Fn Try.prog 24 #[.int .i64 (x0), .int .i64 (x1), .int .i64 (x2)] gI wI (fun _ _ v => v = .bool (r)) := by
 unfold f24 at h
 refine fn_of_E Try.func24 rfl (Nat.le_of_ble_eq_true rfl) fun g0 hm hfr => ?_
 show E _ 15 none _ _ _ _ _
 refine E_seq (E_region (EL_at (.bool false) rfl rfl ?_))
 refine EL_nil (thn_n ?_)
 obtain ⟨j0, hx, h⟩ := bsome h
 refine E_join (fun e w => ∃ (g : Gh) , Fr gI wI g w ∧ e 6 = .bool (j0)) (fun Q' hQ => ?_) (fun o0 w3 hR => ?_)
 ·replace h := hx
  clear hx
  refine E_region (EL_mw (.int .i64 (x0)) rfl rfl ?_)
  refine EL_mw (.int .i64 (x1)) rfl rfl ?_
  refine EL_in (.bool ((decide (x0 ≥ x1)))) rfl rfl rfl rfl ?_
  refine EL_mw (.bool ((decide (x0 ≥ x1)))) rfl rfl ?_
  rcases csome h with ⟨hc2, h⟩ | ⟨hc2, h⟩
  ·refine EL_pur (v := .int .i64 (x0)) (P_move rfl) (.yes2 rfl rfl hc2) rfl ?_
   refine EL_pur (v := .int .i64 (x2)) (P_move rfl) (.yes2 rfl rfl hc2) rfl ?_
   refine EL_pur (v := .bool ((decide (x0 ≤ x2)))) (P_int rfl rfl rfl) (.yes2 rfl rfl hc2) rfl ?_
   refine EL_pur (v := .bool ((decide (x0 ≤ x2)))) (P_pick (b := (decide (x0 ≥ x1))) rfl (pick_t hc2 rfl)) .plain rfl ?_
   refine EL_at (.bool ((decide (x0 ≤ x2)))) rfl rfl ?_
   refine EL_nil ?_
   obtain rfl := sinj h
   exact hQ _ _ ⟨g0, hfr, rfl⟩
  ·refine EL_skip (.no2 rfl rfl hc2 rfl) rfl ?_
   refine EL_skip (.no2 rfl rfl hc2 rfl) rfl ?_
   refine EL_skip (.no2 rfl rfl hc2 rfl) rfl ?_
   refine EL_pur (v := .bool false) (P_pick (b := (decide (x0 ≥ x1))) rfl (pick_f hc2 rfl)) .plain rfl ?_
   refine EL_at (.bool false) rfl rfl ?_
   refine EL_nil ?_
   obtain rfl := sinj h
   exact hQ _ _ ⟨g0, hfr, rfl⟩
 ·clear hx
  obtain ⟨g3, hfr, n0⟩ := hR
  refine E_ret ?_
  obtain rfl := sinj h
  exact end1 rfl rfl (show _ = .bool (j0) from n0) ⟨_, hfr, rfl⟩
/-- griffe/grifferef05.Picks -/
def f25 (x0 : List Str) (x1 : Int) : Option ((List Str)) :=
 Option.bind (α := (List Str)) (
  lp (σ := (List Str) × Int) (fun z4 (o0, j0) =>
   jn (σ := Unit) (fun (_ : Unit) =>
    Option.bind (α := (List Str)) (
     (rem64 j0 ((x0).length : Int)).bind fun j2 =>
     (idx x0 j2).bind fun q2 =>
     (apnd 16 o0 (([q2] : List Str))).bind fun c5 =>
     some (c5)
     ) fun u0 =>
    z4 (u0, (w64 (j0 + (1 : Int))))
    ) fun d5 =>
   bif (decide (j0 < x1)) then
    d5 ()
   else
    some (o0)
   ) big (([] : List Str), (0 : Int))
  ) fun y0 =>
 some (y0)
theorem en25 : Enters Try.prog 25 := enters_of Try.func25 (by kernel_rfl) rfl
theorem wk25 {gI : Gh} {wI : World} {x0 : List Str} {x1 : Int} {up0 : Value} (rp0 : RV gI.m wI x0 up0) {r : (List Str)} (h : f25 x0 x1 = some r) : Fn Try.prog 25 #[up0, .int .i64 (x1)] gI wI (fun m w v => RV m w (r) v) := by
 unfold f25 at h
 refine fn_of_E Try.func25 rfl (Nat.le_of_ble_eq_true rfl) fun g0 hm hfr => ?_
 have rp0 : RV g0.m wI x0 up0 := hm ▸ rp0
 show E _ 24 none _ _ _ _ _
 refine E_seq (E_region (EL_at (.slice none 0 0) rfl rfl ?_))
 refine EL_nil (thn_n (E_seq (E_region (EL_do .plain rfl (D_buildSlice (g := g0) 3007 (xs := ([] : List Str)) (vs := []) Try.underlying36 Try.sizeOf9 Try.zeroValue9 rfl rfl .nil RVs.nil rfl rfl fun g1 w1 v1 hs o1 r1 hxt hfl => ?_)))))
 have hfr := hfr.stp hs
 have rp0 := rp0.stp hs
 refine EL_at v1 rfl rfl ?_
 refine EL_nil (thn_n ?_)
 obtain ⟨y0, hx, h⟩ := bsome h
 refine E_join (fun e w => ∃ (g : Gh) (v5 : Value), Fr gI wI g w ∧ e 5 = v5 ∧ RV g.m w (y0 : List Str) v5 ∧ OS 3007 g w 9 (y0 : List Str) v5) (fun Q' hQ => ?_) (fun c6 j6 hR => ?_)
 ·replace h := hx
  clear hx
  refine E_seq (E_region (EL_at (.int .i64 (0)) rfl rfl ?_))
  refine EL_nil (thn_n (E_block ?_))
  refine E_lp h (fun (s : (List Str) × Int) e w => ∃ (g : Gh) (v5 : Value), Fr gI wI g w ∧ e 0 = up0 ∧ RV g.m w (x0 : List Str) up0 ∧ e 1 = .int .i64 (x1) ∧ e 5 = v5 ∧ RV g.m w (s.1 : List Str) v5 ∧ OS 3007 g w 9 (s.1 : List Str) v5 ∧ e 6 = .int .i64 (s.2)) ⟨g1, (v1), hfr, rfl, rp0, rfl, rfl, r1, o1, rfl⟩ (fun X23 z4 m5 => ?_)
  rintro ⟨o0, j0⟩ d6 k6 ⟨i5, i1, hfr, s3, u3, s2, z2, d3, i3, j3⟩ h
  refine E_joinC h (fun (s : Unit) e w => ∃ (g : Gh) , Fr gI wI g w ∧ e 0 = up0 ∧ RV g.m w (x0 : List Str) up0 ∧ e 1 = .int .i64 (x1) ∧ e 5 = i1 ∧ RV g.m w (o0 : List Str) i1 ∧ OS 3007 g w 9 (o0 : List Str) i1 ∧ e 6 = .int .i64 (j0)) (fun X26 d5 n5 h => ?_) ?_
  ·refine E_seq (E_region (EL_mv j3 rfl ?_))
   refine EL_mv s2 rfl ?_
   refine EL_in (.bool ((decide (j0 < x1)))) rfl rfl rfl rfl ?_
   refine EL_nil (thn_n ?_)
   rcases csome h with ⟨i2, h⟩ | ⟨i2, h⟩
   ·refine E_ct i2 rfl ?_
    exact E_skip (thn_n (n5 () _ _ ⟨i5, hfr, s3, u3, s2, z2, d3, i3, j3⟩ h))
   ·refine E_cf i2 rfl ?_
    refine E_exit ?_
    refine thn_e ?_
    refine thn_e ?_
    refine blk_hit ?_
    obtain rfl := sinj h
    exact hQ _ _ ⟨i5, (i1), hfr, z2, d3, i3⟩
  ·rintro _ e6 l6 ⟨j5, hfr, j1, n0, z3, c4, z1, d2, o3⟩ h
   obtain ⟨u0, hx, h⟩ := bsome h
   refine E_join (fun e w => ∃ (g : Gh) (v5 : Value), Fr gI wI g w ∧ e 0 = up0 ∧ RV g.m w (x0 : List Str) up0 ∧ e 1 = .int .i64 (x1) ∧ e 5 = v5 ∧ RV g.m w (u0 : List Str) v5 ∧ OS 3007 g w 9 (u0 : List Str) v5 ∧ e 6 = .int .i64 (j0)) (fun Q' hQ => ?_) (fun i6 m6 hR => ?_)
   ·replace h := hx
    clear hx
    refine E_block ?_
    refine E_region (EL_mv c4 rfl ?_)
    refine EL_mv j1 rfl ?_
    refine EL_mv o3 rfl ?_
    refine EL_mv j1 rfl ?_
    refine EL_pur (v := .int .i64 ((x0).length : Int)) (P_len Try.underlying36 rfl n0) .plain rfl ?_
    obtain ⟨j2, o5, h⟩ := bsome h
    refine EL_pur (v := .int .i64 (j2)) (P_int rfl rfl (congrArg (Option.map (Value.int .i64)) o5)) .plain rfl ?_
    obtain ⟨q2, q3, h⟩ := bsome h
    refine EL_pur (v := ePtr up0 j2 1) (P_indexAddr (α := Str) Try.underlying36 Try.sizeOf9 rfl n0 rfl q3) .plain rfl ?_
    have q5 := PT_idx n0 q3
    refine EL_do .plain rfl (D_load (g := j5) Try.isAgg9 Try.sizeOf9 rfl q5 fun n6 t5 => ?_)
    obtain rfl := RV_str.1 t5
    refine EL_do .plain rfl (D_buildSlice (g := j5) 3021 (xs := ([q2] : List Str)) (vs := [Str.v (q2)]) Try.underlying36 Try.sizeOf9 Try.zeroValue9 rfl rfl (.cons rfl .nil) (RVs.cons (RV_str.2 rfl) RVs.nil) rfl rfl fun u5 o6 p6 hs o40 x5 hxt hfl => ?_)
    have hfr := hfr.stp hs
    have n0 := n0.stp hs
    have z1 := z1.stp hs
    have d2 := d2.stp hs rfl
    obtain ⟨c5, p5, h⟩ := bsome h
    refine EL_do .plain rfl (D_append (g := u5) (i := 3007) Try.underlying36 info_9 rfl rfl d2 z1 rfl x5 p5 fun y5 q6 l5 hs o41 z5 _ => ?_)
    have hfr := hfr.stp hs
    have n0 := n0.stp hs
    refine EL_at l5 rfl rfl ?_
    refine EL_nil (blk_n ?_)
    obtain rfl := sinj h
    exact hQ _ _ ⟨y5, (l5), hfr, j1, n0, z3, rfl, z5, o41, o3⟩
   ·clear hx
    obtain ⟨a6, d4, hfr, i4, j4, m4, n4, o4, p4, q4⟩ := hR
    refine E_region (EL_mv q4 rfl ?_)
    refine EL_in (.int .i64 ((w64 (j0 + (1 : Int))))) rfl rfl rfl rfl ?_
    refine EL_at (.int .i64 ((w64 (j0 + (1 : Int))))) rfl rfl ?_
    exact EL_nil (thn_n (m5 (u0, (w64 (j0 + (1 : Int)))) _ _ ⟨a6, (d4), hfr, i4, j4, m4, n4, o4, p4, rfl⟩ h))
 ·clear hx
  obtain ⟨r6, p3, hfr, u4, x4, b6⟩ := hR
  refine E_seq (E_region (EL_mv u4 rfl ?_))
  refine EL_at p3 rfl rfl ?_
  refine EL_nil (thn_n (E_ret ?_))
  obtain rfl := sinj h
  exact end1 rfl rfl (show _ = p3 from rfl) ⟨_, hfr, x4⟩
/-- griffe/grifferef03.Alike -/
def f27 (x0 : List Str) (x1 : List Str) : Option (Bool) :=
 jn (σ := Unit) (fun (_ : Unit) =>
  jn (σ := Unit) (fun (_ : Unit) =>
   some (true)
   ) fun z3 =>
  lp (σ := Int) (fun c4 j0 =>
   jn (σ := Unit) (fun (_ : Unit) =>
    jn (σ := Unit) (fun (_ : Unit) =>
     c4 ((w64 (j0 + (1 : Int))))
     ) fun d4 =>
    (idx x0 j0).bind fun j1 =>
    (idx x1 j0).bind fun z1 =>
    bif (!((j1).b == (z1).b)) then
     some (false)
    else
     d4 ()
    ) fun i4 =>
   bif (decide (j0 < ((x0).length : Int))) then
    i4 ()
   else
    z3 ()
   ) big ((0 : Int))
  ) fun k2 =>
 bif (((x0).length : Int) != ((x1).length : Int)) then
  some (false)
 else
  k2 ()
theorem en27 : Enters Try.prog 27 := enters_of Try.func27 (by kernel_rfl) rfl
theorem wk27 {gI : Gh} {wI : World} {x0 : List Str} {x1 : List Str} {up0 : Value} (rp0 : RV gI.m wI x0 up0) {up1 : Value} (rp1 : RV gI.m wI x1 up1) {r : Bool} (h : f27 x0 x1 = some r) : Fn Try.prog 27 #[up0, up1] gI wI (fun _ _ v => v = .bool (r)) := by
 unfold f27 at h
 refine fn_of_E Try.func27 rfl (Nat.le_of_ble_eq_true rfl) fun g0 hm hfr => ?_
 have rp0 : RV g0.m wI x0 up0 := hm ▸ rp0
 have rp1 : RV g0.m wI x1 up1 := hm ▸ rp1
 show E _ 26 none _ _ _ _ _
 refine E_seq (E_region (EL_at (.bool false) rfl rfl ?_))
 refine EL_nil (thn_n (E_joinC h (fun (s : Unit) e w => ∃ (g : Gh) , Fr gI wI g w ∧ e 0 = up0 ∧ RV g.m w (x0 : List Str) up0 ∧ e 1 = up1 ∧ RV g.m w (x1 : List Str) up1) (fun X2 k2 hk2 h => ?_) ?_))
 ·refine E_seq (E_region (EL_mw up0 rfl rfl ?_))
  refine EL_pur (v := .int .i64 ((x0).length : Int)) (P_len Try.underlying36 rfl rp0) .plain rfl ?_
  refine EL_mw up1 rfl rfl ?_
  refine EL_pur (v := .int .i64 ((x1).length : Int)) (P_len Try.underlying36 rfl rp1) .plain rfl ?_
  refine EL_in (.bool ((((x0).length : Int) != ((x1).length : Int)))) rfl rfl rfl rfl ?_
  refine EL_nil (thn_n ?_)
  rcases csome h with ⟨hc3, h⟩ | ⟨hc3, h⟩
  ·refine E_ct hc3 rfl ?_
   refine E_seq (E_region (EL_at (.bool false) rfl rfl ?_))
   refine EL_nil (thn_n (E_ret (thn_r ?_)))
   obtain rfl := sinj h
   exact end1 rfl rfl (show _ = .bool false from rfl) ⟨_, hfr, rfl⟩
  ·refine E_cf hc3 rfl ?_
   exact E_skip (thn_n (hk2 () _ _ ⟨g0, hfr, rfl, rp0, rfl, rp1⟩ h))
 ·rintro _ b6 w4 ⟨g4, hfr, m4, n4, o4, p4⟩ h
  refine E_joinC h (fun (s : Unit) e w => ∃ (g : Gh) , Fr gI wI g w) (fun X53 z3 q4 h => ?_) ?_
  ·refine E_seq (E_region (EL_at (.int .i64 (0)) rfl rfl ?_))
   refine EL_nil (thn_n (E_block ?_))
   refine E_lp h (fun (s : Int) e w => ∃ (g : Gh) , Fr gI wI g w ∧ e 0 = up0 ∧ RV g.m w (x0 : List Str) up0 ∧ e 1 = up1 ∧ RV g.m w (x1 : List Str) up1 ∧ e 5 = .int .i64 (s)) ⟨g4, hfr, m4, n4, o4, p4, rfl⟩ (fun X54 c4 u4 => ?_)
   rintro j0 u5 c6 ⟨j4, hfr, d2, i2, s3, u3, j2⟩ h
   refine E_joinC h (fun (s : Unit) e w => ∃ (g : Gh) , Fr gI wI g w ∧ e 0 = up0 ∧ RV g.m w (x0 : List Str) up0 ∧ e 1 = up1 ∧ RV g.m w (x1 : List Str) up1 ∧ e 5 = .int .i64 (j0)) (fun X57 i4 x4 h => ?_) ?_
   ·refine E_seq (E_region (EL_mv j2 rfl ?_))
    refine EL_mv d2 rfl ?_
    refine EL_pur (v := .int .i64 ((x0).length : Int)) (P_len Try.underlying36 rfl i2) .plain rfl ?_
    refine EL_in (.bool ((decide (j0 < ((x0).length : Int))))) rfl rfl rfl rfl ?_
    refine EL_nil (thn_n ?_)
    rcases csome h with ⟨i1, h⟩ | ⟨i1, h⟩
    ·refine E_ct i1 rfl ?_
     exact E_skip (thn_n (x4 () _ _ ⟨j4, hfr, d2, i2, s3, u3, j2⟩ h))
    ·refine E_cf i1 rfl ?_
     refine E_exit ?_
     refine thn_e ?_
     refine thn_e ?_
     refine blk_hit ?_
     exact thn_n (q4 () _ _ ⟨j4, hfr⟩ h)
   ·rintro _ x5 d6 ⟨j5, hfr, q2, n0, s2, o0, u0⟩ h
    refine E_joinC h (fun (s : Unit) e w => ∃ (g : Gh) , Fr gI wI g w ∧ e 0 = up0 ∧ RV g.m w (x0 : List Str) up0 ∧ e 1 = up1 ∧ RV g.m w (x1 : List Str) up1 ∧ e 5 = .int .i64 (j0)) (fun X80 d4 z4 h => ?_) ?_
    ·refine E_block ?_
     refine E_seq ?_
     obtain ⟨j1, z2, h⟩ := bsome h
     have l5 := PT_idx n0 z2
     refine L_load (x := .tmp 19) Try.isAgg9 Try.sizeOf9 l5 fun e6 m5 c5 => ?_
     obtain rfl := RV_str.1 m5
     obtain ⟨z1, d3, h⟩ := bsome h
     have n5 := PT_idx o0 d3
     refine L_load (x := .tmp 23) Try.isAgg9 Try.sizeOf9 n5 fun i6 o5 d5 => ?_
     obtain rfl := RV_str.1 o5
     refine E_drawL (g := j5) (n := 9) [] [0, 1, 2, 3, 4, 5, 6, 7, 8] rfl mixed (by kernel_rfl) trivial ?_
     refine L_pur (c := up0) rfl rfl .plain (fun _ _ hd => P_move q2) ?_
     refine L_pur (c := .int .i64 (j0)) rfl rfl .plain (fun _ _ hd => P_move u0) ?_
     refine L_pur (c := ePtr up0 j0 1) rfl rfl .plain (fun _ _ hd => P_indexAddr (α := Str) Try.underlying36 Try.sizeOf9 rfl n0 rfl z2) ?_
     refine L_ld (c := Str.v (j1)) rfl rfl .plain (fun _ _ h => h.ch) c5 rfl ?_
     refine L_pur (c := up1) rfl rfl .plain (fun _ _ hd => P_move s2) ?_
     refine L_pur (c := .int .i64 (j0)) rfl rfl .plain (fun _ _ hd => P_move u0) ?_
     refine L_pur (c := ePtr up1 j0 1) rfl rfl .plain (fun _ _ hd => P_indexAddr (α := Str) Try.underlying36 Try.sizeOf9 rfl o0 rfl d3) ?_
     refine L_ld (c := Str.v (z1)) rfl rfl .plain (fun _ _ h => h.ch) d5 rfl ?_
     refine L_pur (c := .bool ((!((j1).b == (z1).b)))) rfl rfl .plain (fun _ _ hd => P_str rfl rfl rfl) ?_
     refine L_nil fun p5 j6 hall => ?_
     have hs := hall.1
     have hfr := hfr.ext hs
     have n0 := n0.ext hs
     have o0 := o0.ext hs
     clear hs hall
     refine EL_nil (thn_n ?_)
     rcases csome h with ⟨y0, h⟩ | ⟨y0, h⟩
     ·refine E_ct y0 rfl ?_
      refine E_seq (E_region (EL_at (.bool false) rfl rfl ?_))
      refine EL_nil (thn_n (E_ret (blk_r ?_)))
      refine thn_r ?_
      refine thn_r ?_
      refine blk_r ?_
      refine thn_r ?_
      obtain rfl := sinj h
      exact end1 rfl rfl (show _ = .bool false from rfl) ⟨_, hfr, rfl⟩
     ·refine E_cf y0 rfl ?_
      exact E_skip (blk_n (thn_n (z4 () _ _ ⟨p5, hfr, q2, n0, s2, o0, u0⟩ h)))
    ·rintro _ q5 y5 ⟨i5, hfr, i3, j3, o3, p3, q3⟩ h
     refine E_region (EL_mv q3 rfl ?_)
     refine EL_in (.int .i64 ((w64 (j0 + (1 : Int))))) rfl rfl rfl rfl ?_
     refine EL_at (.int .i64 ((w64 (j0 + (1 : Int))))) rfl rfl ?_
     exact EL_nil (thn_n (u4 ((w64 (j0 + (1 : Int)))) _ _ ⟨i5, hfr, i3, j3, o3, p3, rfl⟩ h))
  ·rintro _ t5 z5 ⟨a6, hfr⟩ h
   refine E_seq (E_region (EL_at (.bool true) rfl rfl ?_))
   refine EL_nil (thn_n (E_ret ?_))
   obtain rfl := sinj h
   exact end1 rfl rfl (show _ = .bool true from rfl) ⟨_, hfr, rfl⟩
/-- griffe/grifferef05.Alike -/
def f28 (x0 : List FaultSight) (x1 : List FaultSight) : Option (Bool) :=
 jn (σ := Unit) (fun (_ : Unit) =>
  jn (σ := Unit) (fun (_ : Unit) =>
   some (true)
   ) fun z3 =>
  lp (σ := Int) (fun c4 j0 =>
   jn (σ := Unit) (fun (_ : Unit) =>
    jn (σ := Unit) (fun (_ : Unit) =>
     c4 ((w64 (j0 + (1 : Int))))
     ) fun d4 =>
    (idx x0 j0).bind fun q2 =>
    (idx x1 j0).bind fun s2 =>
    bif (!(decide (q2 = s2))) then
     some (false)
    else
     d4 ()
    ) fun i4 =>
   bif (decide (j0 < ((x0).length : Int))) then
    i4 ()
   else
    z3 ()
   ) big ((0 : Int))
  ) fun k2 =>
 bif (((x0).length : Int) != ((x1).length : Int)) then
  some (false)
 else
  k2 ()
theorem en28 : Enters Try.prog 28 := enters_of Try.func28 (by kernel_rfl) rfl
theorem wk28 {gI : Gh} {wI : World} {x0 : List FaultSight} {x1 : List FaultSight} {up0 : Value} (rp0 : RV gI.m wI x0 up0) {up1 : Value} (rp1 : RV gI.m wI x1 up1) {r : Bool} (h : f28 x0 x1 = some r) : Fn Try.prog 28 #[up0, up1] gI wI (fun _ _ v => v = .bool (r)) := by
 unfold f28 at h
 refine fn_of_E Try.func28 rfl (Nat.le_of_ble_eq_true rfl) fun g0 hm hfr => ?_
 have rp0 : RV g0.m wI x0 up0 := hm ▸ rp0
 have rp1 : RV g0.m wI x1 up1 := hm ▸ rp1
 show E _ 26 none _ _ _ _ _
 refine E_seq (E_region (EL_at (.bool false) rfl rfl ?_))
 refine EL_nil (thn_n (E_joinC h (fun (s : Unit) e w => ∃ (g : Gh) , Fr gI wI g w ∧ e 0 = up0 ∧ RV g.m w (x0 : List FaultSight) up0 ∧ e 1 = up1 ∧ RV g.m w (x1 : List FaultSight) up1) (fun X2 k2 hk2 h => ?_) ?_))
 ·refine E_seq (E_region (EL_mw up0 rfl rfl ?_))
  refine EL_pur (v := .int .i64 ((x0).length : Int)) (P_len Try.underlying39 rfl rp0) .plain rfl ?_
  refine EL_mw up1 rfl rfl ?_
  refine EL_pur (v := .int .i64 ((x1).length : Int)) (P_len Try.underlying39 rfl rp1) .plain rfl ?_
  refine EL_in (.bool ((((x0).length : Int) != ((x1).length : Int)))) rfl rfl rfl rfl ?_
  refine EL_nil (thn_n ?_)
  rcases csome h with ⟨hc3, h⟩ | ⟨hc3, h⟩
  ·refine E_ct hc3 rfl ?_
   refine E_seq (E_region (EL_at (.bool false) rfl rfl ?_))
   refine EL_nil (thn_n (E_ret (thn_r ?_)))
   obtain rfl := sinj h
   exact end1 rfl rfl (show _ = .bool false from rfl) ⟨_, hfr, rfl⟩
  ·refine E_cf hc3 rfl ?_
   exact E_skip (thn_n (hk2 () _ _ ⟨g0, hfr, rfl, rp0, rfl, rp1⟩ h))
 ·rintro _ d6 w4 ⟨g4, hfr, m4, n4, o4, p4⟩ h
  refine E_joinC h (fun (s : Unit) e w => ∃ (g : Gh) , Fr gI wI g w) (fun X53 z3 q4 h => ?_) ?_
  ·refine E_seq (E_region (EL_at (.int .i64 (0)) rfl rfl ?_))
   refine EL_nil (thn_n (E_block ?_))
   refine E_lp h (fun (s : Int) e w => ∃ (g : Gh) , Fr gI wI g w ∧ e 0 = up0 ∧ RV g.m w (x0 : List FaultSight) up0 ∧ e 1 = up1 ∧ RV g.m w (x1 : List FaultSight) up1 ∧ e 5 = .int .i64 (s)) ⟨g4, hfr, m4, n4, o4, p4, rfl⟩ (fun X54 c4 u4 => ?_)
   rintro j0 y5 e6 ⟨j4, hfr, j1, z1, s3, u3, d2⟩ h
   refine E_joinC h (fun (s : Unit) e w => ∃ (g : Gh) , Fr gI wI g w ∧ e 0 = up0 ∧ RV g.m w (x0 : List FaultSight) up0 ∧ e 1 = up1 ∧ RV g.m w (x1 : List FaultSight) up1 ∧ e 5 = .int .i64 (j0)) (fun X57 i4 x4 h => ?_) ?_
   ·refine E_seq (E_region (EL_mv d2 rfl ?_))
    refine EL_mv j1 rfl ?_
    refine EL_pur (v := .int .i64 ((x0).length : Int)) (P_len Try.underlying39 rfl z1) .plain rfl ?_
    refine EL_in (.bool ((decide (j0 < ((x0).length : Int))))) rfl rfl rfl rfl ?_
    refine EL_nil (thn_n ?_)
    rcases csome h with ⟨i1, h⟩ | ⟨i1, h⟩
    ·refine E_ct i1 rfl ?_
     exact E_skip (thn_n (x4 () _ _ ⟨j4, hfr, j1, z1, s3, u3, d2⟩ h))
    ·refine E_cf i1 rfl ?_
     refine E_exit ?_
     refine thn_e ?_
     refine thn_e ?_
     refine blk_hit ?_
     exact thn_n (q4 () _ _ ⟨j4, hfr⟩ h)
   ·rintro _ z5 i6 ⟨j5, hfr, i2, n0, j2, o0, u0⟩ h
    refine E_joinC h (fun (s : Unit) e w => ∃ (g : Gh) , Fr gI wI g w ∧ e 0 = up0 ∧ RV g.m w (x0 : List FaultSight) up0 ∧ e 1 = up1 ∧ RV g.m w (x1 : List FaultSight) up1 ∧ e 5 = .int .i64 (j0)) (fun X80 d4 z4 h => ?_) ?_
    ·refine E_block ?_
     refine E_seq ?_
     obtain ⟨q2, z2, h⟩ := bsome h
     have l5 := PT_idx n0 z2
     refine L_load (x := .tmp 19) Try.isAgg56 Try.sizeOf56 l5 fun m5 n5 c5 => ?_
     obtain ⟨s2, d3, h⟩ := bsome h
     have o5 := PT_idx o0 d3
     refine L_load (x := .tmp 23) Try.isAgg56 Try.sizeOf56 o5 fun p5 q5 d5 => ?_
     refine E_drawL (g := j5) (n := 9) [] [0, 1, 2, 3, 4, 5, 6, 7, 8] rfl mixed (by kernel_rfl) trivial ?_
     refine L_pur (c := up0) rfl rfl .plain (fun _ _ hd => P_move i2) ?_
     refine L_pur (c := .int .i64 (j0)) rfl rfl .plain (fun _ _ hd => P_move u0) ?_
     refine L_pur (c := ePtr up0 j0 3) rfl rfl .plain (fun _ _ hd => P_indexAddr (α := FaultSight) Try.underlying39 Try.sizeOf56 rfl n0 rfl z2) ?_
     refine L_ld (c := m5) rfl rfl .plain (fun _ _ h => h.ch) c5 rfl ?_
     refine L_pur (c := up1) rfl rfl .plain (fun _ _ hd => P_move j2) ?_
     refine L_pur (c := .int .i64 (j0)) rfl rfl .plain (fun _ _ hd => P_move u0) ?_
     refine L_pur (c := ePtr up1 j0 3) rfl rfl .plain (fun _ _ hd => P_indexAddr (α := FaultSight) Try.underlying39 Try.sizeOf56 rfl o0 rfl d3) ?_
     refine L_ld (c := p5) rfl rfl .plain (fun _ _ h => h.ch) d5 rfl ?_
     refine L_pur (c := .bool ((!(decide (q2 = s2))))) rfl rfl .plain (fun _ _ hd => P_sne seq_56 rfl eg_56 rfl rfl n5 q5) ?_
     refine L_nil fun t5 j6 hall => ?_
     have hs := hall.1
     have hfr := hfr.ext hs
     have n0 := n0.ext hs
     have o0 := o0.ext hs
     clear hs hall
     refine EL_nil (thn_n ?_)
     rcases csome h with ⟨y0, h⟩ | ⟨y0, h⟩
     ·refine E_ct y0 rfl ?_
      refine E_seq (E_region (EL_at (.bool false) rfl rfl ?_))
      refine EL_nil (thn_n (E_ret (blk_r ?_)))
      refine thn_r ?_
      refine thn_r ?_
      refine blk_r ?_
      refine thn_r ?_
      obtain rfl := sinj h
      exact end1 rfl rfl (show _ = .bool false from rfl) ⟨_, hfr, rfl⟩
     ·refine E_cf y0 rfl ?_
      exact E_skip (blk_n (thn_n (z4 () _ _ ⟨t5, hfr, i2, n0, j2, o0, u0⟩ h)))
    ·rintro _ u5 a6 ⟨i5, hfr, i3, j3, o3, p3, q3⟩ h
     refine E_region (EL_mv q3 rfl ?_)
     refine EL_in (.int .i64 ((w64 (j0 + (1 : Int))))) rfl rfl rfl rfl ?_
     refine EL_at (.int .i64 ((w64 (j0 + (1 : Int))))) rfl rfl ?_
     exact EL_nil (thn_n (u4 ((w64 (j0 + (1 : Int)))) _ _ ⟨i5, hfr, i3, j3, o3, p3, rfl⟩ h))
  ·rintro _ x5 b6 ⟨c6, hfr⟩ h
   refine E_seq (E_region (EL_at (.bool true) rfl rfl ?_))
   refine EL_nil (thn_n (E_ret ?_))
   obtain rfl := sinj h
   exact end1 rfl rfl (show _ = .bool true from rfl) ⟨_, hfr, rfl⟩
/-- griffe/grifferef05.Wrong -/
def f29 (x0 : List Str) (x1 : List Str) : Option ((List FaultSight)) :=
 Option.bind (α := (List FaultSight)) (
  lp (σ := (List FaultSight) × Int) (fun z5 (j2, j0) =>
   jn (σ := Unit) (fun (_ : Unit) =>
    Option.bind (α := (List FaultSight)) (
     lp (σ := (List FaultSight) × Int) (fun a6 (y0, n0) =>
      jn (σ := Unit) (fun (_ : Unit) =>
       Option.bind (α := (List FaultSight)) (
        (idx x0 j0).bind fun o5 =>
        (idx (o5).b n0).bind fun u3 =>
        (idx x1 j0).bind fun p5 =>
        (idx (p5).b n0).bind fun z3 =>
        bif (u3 != z3) then
         (idx x0 j0).bind fun b6 =>
         (idx (b6).b n0).bind fun i2 =>
         (apnd 24 y0 (([(⟨j0, n0, (i2 == (120 : UInt8))⟩ : FaultSight)] : List FaultSight))).bind fun c6 =>
         some (c6)
        else
         some (y0)
        ) fun q2 =>
       a6 (q2, (w64 (n0 + (1 : Int))))
       ) fun d6 =>
      (idx x0 j0).bind fun c4 =>
      bif (decide (n0 < ((c4).b.length : Int))) then
       d6 ()
      else
       some (y0)
      ) big (j2, (0 : Int))
     ) fun s2 =>
    z5 (s2, (w64 (j0 + (1 : Int))))
    ) fun e6 =>
   bif (decide (j0 < ((x0).length : Int))) then
    e6 ()
   else
    some (j2)
   ) big (([] : List FaultSight), (0 : Int))
  ) fun i3 =>
 some (i3)
theorem en29 : Enters Try.prog 29 := enters_of Try.func29 (by kernel_rfl) rfl
theorem wk29 {gI : Gh} {wI : World} {x0 : List Str} {x1 : List Str} {up0 : Value} (rp0 : RV gI.m wI x0 up0) {up1 : Value} (rp1 : RV gI.m wI x1 up1) {r : (List FaultSight)} (h : f29 x0 x1 = some r) : Fn Try.prog 29 #[up0, up1] gI wI (fun m w v => RV m w (r) v) := by
 unfold f29 at h
 refine fn_of_E Try.func29 rfl (Nat.le_of_ble_eq_true rfl) fun g0 hm hfr => ?_
 have rp0 : RV g0.m wI x0 up0 := hm ▸ rp0
 have rp1 : RV g0.m wI x1 up1 := hm ▸ rp1
 show E _ 51 none _ _ _ _ _
 refine E_seq (E_region (EL_at (.slice none 0 0) rfl rfl ?_))
 refine EL_nil (thn_n (E_seq (E_region (EL_do .plain rfl (D_buildSlice (g := g0) 3008 (xs := ([] : List FaultSight)) (vs := []) Try.underlying39 Try.sizeOf56 Try.zeroValue56 rfl rfl .nil RVs.nil rfl rfl fun g1 w1 v1 hs o1 r1 hxt hfl => ?_)))))
 have hfr := hfr.stp hs
 have rp0 := rp0.stp hs
 have rp1 := rp1.stp hs
 refine EL_at v1 rfl rfl ?_
 refine EL_nil (thn_n ?_)
 obtain ⟨i3, hx, h⟩ := bsome h
 refine E_join (fun e w => ∃ (g : Gh) (v5 : Value), Fr gI wI g w ∧ e 5 = v5 ∧ RV g.m w (i3 : List FaultSight) v5 ∧ OS 3008 g w 56 (i3 : List FaultSight) v5) (fun Q' hQ => ?_) (fun i9 p9 hR => ?_)
 ·replace h := hx
  clear hx
  refine E_seq (E_region (EL_at (.int .i64 (0)) rfl rfl ?_))
  refine EL_nil (thn_n (E_block ?_))
  refine E_lp h (fun (s : (List FaultSight) × Int) e w => ∃ (g : Gh) (v5 : Value), Fr gI wI g w ∧ e 0 = up0 ∧ RV g.m w (x0 : List Str) up0 ∧ e 1 = up1 ∧ RV g.m w (x1 : List Str) up1 ∧ e 5 = v5 ∧ RV g.m w (s.1 : List FaultSight) v5 ∧ OS 3008 g w 56 (s.1 : List FaultSight) v5 ∧ e 6 = .int .i64 (s.2)) ⟨g1, (v1), hfr, rfl, rp0, rfl, rp1, rfl, r1, o1, rfl⟩ (fun X179 z5 y7 => ?_)
  rintro ⟨j2, j0⟩ j9 q9 ⟨i6, z2, hfr, n4, o4, j6, k6, p4, q4, u4, x4⟩ h
  refine E_joinC h (fun (s : Unit) e w => ∃ (g : Gh) , Fr gI wI g w ∧ e 0 = up0 ∧ RV g.m w (x0 : List Str) up0 ∧ e 1 = up1 ∧ RV g.m w (x1 : List Str) up1 ∧ e 5 = z2 ∧ RV g.m w (j2 : List FaultSight) z2 ∧ OS 3008 g w 56 (j2 : List FaultSight) z2 ∧ e 6 = .int .i64 (j0)) (fun X182 e6 z7 h => ?_) ?_
  ·refine E_seq (E_region (EL_mv x4 rfl ?_))
   refine EL_mv n4 rfl ?_
   refine EL_pur (v := .int .i64 ((x0).length : Int)) (P_len Try.underlying36 rfl o4) .plain rfl ?_
   refine EL_in (.bool ((decide (j0 < ((x0).length : Int))))) rfl rfl rfl rfl ?_
   refine EL_nil (thn_n ?_)
   rcases csome h with ⟨d4, h⟩ | ⟨d4, h⟩
   ·refine E_ct d4 rfl ?_
    exact E_skip (thn_n (z7 () _ _ ⟨i6, hfr, n4, o4, j6, k6, p4, q4, u4, x4⟩ h))
   ·refine E_cf d4 rfl ?_
    refine E_exit ?_
    refine thn_e ?_
    refine thn_e ?_
    refine blk_hit ?_
    obtain rfl := sinj h
    exact hQ _ _ ⟨i6, (z2), hfr, p4, q4, u4⟩
  ·rintro _ k9 r9 ⟨l8, hfr, l6, m6, n6, o6, p6, q6, r6, t6⟩ h
   obtain ⟨s2, hx, h⟩ := bsome h
   refine E_join (fun e w => ∃ (g : Gh) (v5 : Value), Fr gI wI g w ∧ e 0 = up0 ∧ RV g.m w (x0 : List Str) up0 ∧ e 1 = up1 ∧ RV g.m w (x1 : List Str) up1 ∧ e 5 = v5 ∧ RV g.m w (s2 : List FaultSight) v5 ∧ OS 3008 g w 56 (s2 : List FaultSight) v5 ∧ e 6 = .int .i64 (j0)) (fun Q' hQ => ?_) (fun l9 s9 hR => ?_)
   ·replace h := hx
    clear hx
    refine E_block ?_
    refine E_seq (E_region (EL_at (.int .i64 (0)) rfl rfl ?_))
    refine EL_nil (thn_n (E_block ?_))
    refine E_lp h (fun (s : (List FaultSight) × Int) e w => ∃ (g : Gh) (v5 : Value), Fr gI wI g w ∧ e 0 = up0 ∧ RV g.m w (x0 : List Str) up0 ∧ e 1 = up1 ∧ RV g.m w (x1 : List Str) up1 ∧ e 5 = v5 ∧ RV g.m w (s.1 : List FaultSight) v5 ∧ OS 3008 g w 56 (s.1 : List FaultSight) v5 ∧ e 6 = .int .i64 (j0) ∧ e 7 = .int .i64 (s.2)) ⟨l8, (z2), hfr, l6, m6, n6, o6, p6, q6, r6, t6, rfl⟩ (fun X270 a6 a8 => ?_)
    rintro ⟨y0, n0⟩ m9 t9 ⟨q5, d3, hfr, p3, j3, z4, c5, d5, i5, j5, q3, l5⟩ h
    refine E_joinC h (fun (s : Unit) e w => ∃ (g : Gh) , Fr gI wI g w ∧ e 0 = up0 ∧ RV g.m w (x0 : List Str) up0 ∧ e 1 = up1 ∧ RV g.m w (x1 : List Str) up1 ∧ e 5 = d3 ∧ RV g.m w (y0 : List FaultSight) d3 ∧ OS 3008 g w 56 (y0 : List FaultSight) d3 ∧ e 6 = .int .i64 (j0) ∧ e 7 = .int .i64 (n0)) (fun X276 d6 b8 h => ?_) ?_
    ·refine E_seq (E_region (EL_mv l5 rfl ?_))
     refine EL_mv p3 rfl ?_
     refine EL_mv q3 rfl ?_
     obtain ⟨c4, t5, h⟩ := bsome h
     refine EL_pur (v := ePtr up0 j0 1) (P_indexAddr (α := Str) Try.underlying36 Try.sizeOf9 rfl j3 rfl t5) .plain rfl ?_
     have m8 := PT_idx j3 t5
     refine EL_do .plain rfl (D_load (g := q5) Try.isAgg9 Try.sizeOf9 rfl m8 fun u9 n8 => ?_)
     obtain rfl := RV_str.1 n8
     refine EL_pur (v := .int .i64 ((c4).b.length : Int)) (P_lenS Try.underlying9 rfl) .plain rfl ?_
     refine EL_in (.bool ((decide (n0 < ((c4).b.length : Int))))) rfl rfl rfl rfl ?_
     refine EL_nil (thn_n ?_)
     rcases csome h with ⟨i4, h⟩ | ⟨i4, h⟩
     ·refine E_ct i4 rfl ?_
      exact E_skip (thn_n (b8 () _ _ ⟨q5, hfr, p3, j3, z4, c5, d5, i5, j5, q3, l5⟩ h))
     ·refine E_cf i4 rfl ?_
      refine E_exit ?_
      refine thn_e ?_
      refine thn_e ?_
      refine blk_hit ?_
      refine blk_n ?_
      obtain rfl := sinj h
      exact hQ _ _ ⟨q5, (d3), hfr, p3, j3, z4, c5, d5, i5, j5, q3⟩
    ·rintro _ n9 v9 ⟨o8, hfr, o3, o0, s3, u0, m5, i1, j1, z1, d2⟩ h
     obtain ⟨q2, hx, h⟩ := bsome h
     refine E_join (fun e w => ∃ (g : Gh) (v5 : Value), Fr gI wI g w ∧ e 0 = up0 ∧ RV g.m w (x0 : List Str) up0 ∧ e 1 = up1 ∧ RV g.m w (x1 : List Str) up1 ∧ e 5 = v5 ∧ RV g.m w (q2 : List FaultSight) v5 ∧ OS 3008 g w 56 (q2 : List FaultSight) v5 ∧ e 6 = .int .i64 (j0) ∧ e 7 = .int .i64 (n0)) (fun Q' hQ => ?_) (fun o9 x9 hR => ?_)
     ·replace h := hx
      clear hx
      refine E_block ?_
      refine E_seq ?_
      obtain ⟨o5, u5, h⟩ := bsome h
      have p8 := PT_idx o0 u5
      refine L_load (x := .tmp 26) Try.isAgg9 Try.sizeOf9 p8 fun y9 q8 c8 => ?_
      obtain rfl := RV_str.1 q8
      obtain ⟨u3, d8, h⟩ := bsome h
      obtain ⟨p5, x5, h⟩ := bsome h
      have r8 := PT_idx u0 x5
      refine L_load (x := .tmp 32) Try.isAgg9 Try.sizeOf9 r8 fun z9 t8 e8 => ?_
      obtain rfl := RV_str.1 t8
      obtain ⟨z3, g8, h⟩ := bsome h
      refine E_drawL (g := o8) (n := 13) [] [0, 1, 2, 3, 4, 5, 6, 7, 8, 9, 10, 11, 12] rfl mixed (by kernel_rfl) trivial ?_
      refine L_pur (c := up0) rfl rfl .plain (fun _ _ hd => P_move o3) ?_
      refine L_pur (c := .int .i64 (j0)) rfl rfl .plain (fun _ _ hd => P_move z1) ?_
      refine L_pur (c := ePtr up0 j0 1) rfl rfl .plain (fun _ _ hd => P_indexAddr (α := Str) Try.underlying36 Try.sizeOf9 rfl o0 rfl u5) ?_
      refine L_ld (c := Str.v (o5)) rfl rfl .plain (fun _ _ h => h.ch) c8 rfl ?_
      refine L_pur (c := .int .i64 (n0)) rfl rfl .plain (fun _ _ hd => P_move d2) ?_
      refine L_pur (c := .int .u8 (UInt8.toNat (u3))) rfl rfl .plain (fun _ _ hd => P_indexS Try.underlying9 rfl rfl d8) ?_
      refine L_pur (c := up1) rfl rfl .plain (fun _ _ hd => P_move s3) ?_
      refine L_pur (c := .int .i64 (j0)) rfl rfl .plain (fun _ _ hd => P_move z1) ?_
      refine L_pur (c := ePtr up1 j0 1) rfl rfl .plain (fun _ _ hd => P_indexAddr (α := Str) Try.underlying36 Try.sizeOf9 rfl u0 rfl x5) ?_
      refine L_ld (c := Str.v (p5)) rfl rfl .plain (fun _ _ h => h.ch) e8 rfl ?_
      refine L_pur (c := .int .i64 (n0)) rfl rfl .plain (fun _ _ hd => P_move d2) ?_
      refine L_pur (c := .int .u8 (UInt8.toNat (z3))) rfl rfl .plain (fun _ _ hd => P_indexS Try.underlying9 rfl rfl g8) ?_
      refine L_pur (c := .bool ((u3 != z3))) rfl rfl .plain (fun _ _ hd => P_u8 rfl rfl rfl) ?_
      refine L_nil fun j4 v8 hall => ?_
      have hs := hall.1
      have hfr := hfr.ext hs
      have o0 := o0.ext hs
      have u0 := u0.ext hs
      have i1 := i1.ext hs
      have j1 := j1.ext hs
      clear hs hall
      refine EL_nil (thn_n ?_)
      rcases csome h with ⟨m4, h⟩ | ⟨m4, h⟩
      ·refine E_ct m4 rfl ?_
       refine E_region (EL_mv m5 rfl ?_)
       refine EL_mv z1 rfl ?_
       refine EL_mv d2 rfl ?_
       refine EL_mv o3 rfl ?_
       refine EL_mv z1 rfl ?_
       obtain ⟨b6, y5, h⟩ := bsome h
       refine EL_pur (v := ePtr up0 j0 1) (P_indexAddr (α := Str) Try.underlying36 Try.sizeOf9 rfl o0 rfl y5) .plain rfl ?_
       have x8 := PT_idx o0 y5
       refine EL_do .plain rfl (D_load (g := j4) Try.isAgg9 Try.sizeOf9 rfl x8 fun aA y8 => ?_)
       obtain rfl := RV_str.1 y8
       refine EL_mv d2 rfl ?_
       obtain ⟨i2, i8, h⟩ := bsome h
       refine EL_pur (v := .int .u8 (UInt8.toNat (i2))) (P_indexS Try.underlying9 rfl rfl i8) .plain rfl ?_
       refine EL_pur (v := .bool ((i2 == (120 : UInt8)))) (P_u8 rfl rfl rfl) .plain rfl ?_
       have u6 : RV j4.m v8 (⟨j0, n0, (i2 == (120 : UInt8))⟩ : FaultSight) (.agg (setCh [[.int .i64 0], [.int .i64 0], [.bool false]] [(0, .int .i64 (j0)), (1, .int .i64 (n0)), (2, .bool ((i2 == (120 : UInt8))))]).flatten.toArray) := RV_build rfl (rep_pair (rfl) (rep_pair (rfl) (rep_last (rfl))))
       generalize j8 : (Value.agg (setCh [[.int .i64 0], [.int .i64 0], [.bool false]] [(0, .int .i64 (j0)), (1, .int .i64 (n0)), (2, .bool ((i2 == (120 : UInt8))))]).flatten.toArray) = v6 at u6
       refine EL_pur (v := v6) (j8 ▸ P_build (vs := [(0, .int .i64 (j0)), (1, .int .i64 (n0)), (2, .bool ((i2 == (120 : UInt8))))]) [[.int .i64 0], [.int .i64 0], [.bool false]] lay_56 rfl rfl (.cons rfl (.cons rfl (.cons rfl .nil))) ⟨⟨_, rfl, rfl⟩, ⟨⟨_, rfl, rfl⟩, ⟨⟨_, rfl, rfl⟩, trivial⟩⟩⟩) .plain rfl ?_
       refine EL_do .plain rfl (D_buildSlice (g := j4) 3048 (xs := ([(⟨j0, n0, (i2 == (120 : UInt8))⟩ : FaultSight)] : List FaultSight)) (vs := [v6]) Try.underlying39 Try.sizeOf56 Try.zeroValue56 rfl rfl (.cons rfl .nil) (RVs.cons u6 RVs.nil) rfl rfl fun z8 bA cA hs o351 a9 hxt hfl => ?_)
       have hfr := hfr.stp hs
       have o0 := o0.stp hs
       have u0 := u0.stp hs
       have i1 := i1.stp hs
       have j1 := j1.stp hs rfl
       obtain ⟨c6, k8, h⟩ := bsome h
       refine EL_do .plain rfl (D_append (g := z8) (i := 3008) Try.underlying39 info_56 rfl rfl j1 i1 rfl a9 k8 fun b9 dA x6 hs o352 c9 _ => ?_)
       have hfr := hfr.stp hs
       have o0 := o0.stp hs
       have u0 := u0.stp hs
       refine EL_at x6 rfl rfl ?_
       refine EL_nil (blk_n ?_)
       obtain rfl := sinj h
       exact hQ _ _ ⟨b9, (x6), hfr, o3, o0, s3, u0, rfl, c9, o352, z1, d2⟩
      ·refine E_cf m4 rfl ?_
       refine E_skip (blk_n ?_)
       obtain rfl := sinj h
       exact hQ _ _ ⟨j4, (d3), hfr, o3, o0, s3, u0, m5, i1, j1, z1, d2⟩
     ·clear hx
      obtain ⟨d9, y6, hfr, z6, a7, b7, c7, d7, e7, g7, i7, j7⟩ := hR
      refine E_region (EL_mv j7 rfl ?_)
      refine EL_in (.int .i64 ((w64 (n0 + (1 : Int))))) rfl rfl rfl rfl ?_
      refine EL_at (.int .i64 ((w64 (n0 + (1 : Int))))) rfl rfl ?_
      exact EL_nil (thn_n (a8 (q2, (w64 (n0 + (1 : Int)))) _ _ ⟨d9, (y6), hfr, z6, a7, b7, c7, d7, e7, g7, i7, rfl⟩ h))
   ·clear hx
    obtain ⟨e9, l7, hfr, m7, n7, o7, p7, q7, r7, t7, u7⟩ := hR
    refine E_region (EL_mv u7 rfl ?_)
    refine EL_in (.int .i64 ((w64 (j0 + (1 : Int))))) rfl rfl rfl rfl ?_
    refine EL_at (.int .i64 ((w64 (j0 + (1 : Int))))) rfl rfl ?_
    exact EL_nil (thn_n (y7 (s2, (w64 (j0 + (1 : Int)))) _ _ ⟨e9, (l7), hfr, m7, n7, o7, p7, q7, r7, t7, rfl⟩ h))
 ·clear hx
  obtain ⟨eA, n5, hfr, v7, x7, g9⟩ := hR
  refine E_seq (E_region (EL_mv v7 rfl ?_))
  refine EL_at n5 rfl rfl ?_
  refine EL_nil (thn_n (E_ret ?_))
  obtain rfl := sinj h
  exact end1 rfl rfl (show _ = n5 from rfl) ⟨_, hfr, x7⟩
/-- griffe/grifferef05.Apart -/
def f40 (x0 : List Str) (x1 : List Str) : Option (Int) :=
 jn (σ := Unit) (fun (_ : Unit) =>
  some ((0 : Int))
  ) fun z3 =>
 lp (σ := Int) (fun c4 j0 =>
  jn (σ := Unit) (fun (_ : Unit) =>
   jn (σ := Unit) (fun (_ : Unit) =>
    c4 ((w64 (j0 + (1 : Int))))
    ) fun d4 =>
   (idx x0 j0).bind fun j1 =>
   (idx x1 j0).bind fun z1 =>
   bif (!((j1).b == (z1).b)) then
    some ((w64 (j0 + (1 : Int))))
   else
    d4 ()
   ) fun i4 =>
  bif (decide (j0 < ((x0).length : Int))) then
   i4 ()
  else
   z3 ()
  ) big ((0 : Int))
/-- griffe/griffelaw05.loom -/
def f49  : Option (FaultLoom) :=
 some ((⟨(⟨(4 : Int), ([(0 : Int), (1 : Int), (2 : Int), (3 : Int), (2 : Int), (1 : Int)] : List Int)⟩ : TieHarness), (⟨(4 : Int), ([(1 : Int), (6 : Int)] : List Int)⟩ : Design)⟩ : FaultLoom))
theorem en49 : Enters Try.prog 49 := enters_of Try.func49 (by kernel_rfl) rfl
theorem wk49 {gI : Gh} {wI : World}   {r : FaultLoom} (h : f49  = some r) : Fn Try.prog 49 #[] gI wI (fun m w v => RV m w (r) v) := by
 unfold f49 at h
 refine fn_of_E Try.func49 rfl (Nat.le_of_ble_eq_true rfl) fun g0 hm hfr => ?_
 show E _ 6 none _ _ _ _ _
 refine E_seq (E_region (EL_do .plain rfl (D_allocOc (g := g0) 2000 (⟨⟨0, []⟩, ⟨0, []⟩⟩ : FaultLoom) Try.zeroValue28 (fun m w => ⟨_, (rep_two (rep_two rep_int rep_nil) (rep_two rep_int rep_nil)), rfl⟩) fun g1 w1 p1 hs b1 cb => ?_)))
 have hfr := hfr.stp hs
 have u0 : OSF 2000 60001 1 g1 w1 3 28 ([] : List Int) p1 := cb.osf (by rfl)
 have y0 : OSF 2000 60003 3 g1 w1 3 28 ([] : List Int) p1 := cb.osf (by rfl)
 clear cb
 refine EL_nil (thn_n (E_seq (E_region (EL_do .plain rfl (D_buildSlice (g := g1) 3001 (xs := ([(0 : Int), (1 : Int), (2 : Int), (3 : Int), (2 : Int), (1 : Int)] : List Int)) (vs := [.int .i64 (0), .int .i64 (1), .int .i64 (2), .int .i64 (3), .int .i64 (2), .int .i64 (1)]) Try.underlying22 Try.sizeOf3 Try.zeroValue3 rfl rfl (.cons rfl (.cons rfl (.cons rfl (.cons rfl (.cons rfl (.cons rfl .nil)))))) (RVs.cons (RV_int.2 rfl) (RVs.cons (RV_int.2 rfl) (RVs.cons (RV_int.2 rfl) (RVs.cons (RV_int.2 rfl) (RVs.cons (RV_int.2 rfl) (RVs.cons (RV_int.2 rfl) RVs.nil)))))) rfl rfl fun g2 w2 v2 hs o2 r2 hxt hfl => ?_)))))
 have hfr := hfr.stp hs
 have b1 := b1.stp hs rfl
 have r3 : RV g2.m _ (⟨(4 : Int), ([(0 : Int), (1 : Int), (2 : Int), (3 : Int), (2 : Int), (1 : Int)] : List Int)⟩ : TieHarness) (.agg (setCh [[.int .i64 0], [.slice none 0 0]] [(0, .int .i64 (4)), (1, v2)]).flatten.toArray) := RV_build rfl (rep_pair (rfl) (rep_last (RV.cells r2)))
 generalize hv3 : (Value.agg (setCh [[.int .i64 0], [.slice none 0 0]] [(0, .int .i64 (4)), (1, v2)]).flatten.toArray) = v3 at r3
 refine EL_pur (v := v3) (hv3 ▸ P_build (vs := [(0, .int .i64 (4)), (1, v2)]) [[.int .i64 0], [.slice none 0 0]] lay_24 rfl rfl (.cons rfl (.cons rfl .nil)) ⟨⟨_, rfl, rfl⟩, ⟨⟨_, rfl, cells_size r2⟩, trivial⟩⟩) .plain rfl ?_
 refine EL_do .plain rfl (D_buildSlice (g := g2) 3003 (xs := ([(1 : Int), (6 : Int)] : List Int)) (vs := [.int .i64 (1), .int .i64 (6)]) Try.underlying22 Try.sizeOf3 Try.zeroValue3 rfl rfl (.cons rfl (.cons rfl .nil)) (RVs.cons (RV_int.2 rfl) (RVs.cons (RV_int.2 rfl) RVs.nil)) rfl rfl fun g4 w4 v4 hs o4 r4 hxt hfl => ?_)
 have hfr := hfr.stp hs
 have b1 := b1.stp hs rfl
 have r3 := r3.stp hs
 have r5 : RV g4.m _ (⟨(4 : Int), ([(1 : Int), (6 : Int)] : List Int)⟩ : Design) (.agg (setCh [[.int .i64 0], [.slice none 0 0]] [(0, .int .i64 (4)), (1, v4)]).flatten.toArray) := RV_build rfl (rep_pair (rfl) (rep_last (RV.cells r4)))
 generalize j0 : (Value.agg (setCh [[.int .i64 0], [.slice none 0 0]] [(0, .int .i64 (4)), (1, v4)]).flatten.toArray) = v5 at r5
 refine EL_pur (v := v5) (j0 ▸ P_build (vs := [(0, .int .i64 (4)), (1, v4)]) [[.int .i64 0], [.slice none 0 0]] lay_26 rfl rfl (.cons rfl (.cons rfl .nil)) ⟨⟨_, rfl, rfl⟩, ⟨⟨_, rfl, cells_size r4⟩, trivial⟩⟩) .plain rfl ?_
 have r6 : RV g4.m _ (⟨(⟨(4 : Int), ([(0 : Int), (1 : Int), (2 : Int), (3 : Int), (2 : Int), (1 : Int)] : List Int)⟩ : TieHarness), (⟨(4 : Int), ([(1 : Int), (6 : Int)] : List Int)⟩ : Design)⟩ : FaultLoom) (.agg (setCh [[.int .i64 0, .slice none 0 0], [.int .i64 0, .slice none 0 0]] [(0, v3), (1, v5)]).flatten.toArray) := RV_build rfl (rep_pair (RV.cells r3) (rep_last (RV.cells r5)))
 generalize n0 : (Value.agg (setCh [[.int .i64 0, .slice none 0 0], [.int .i64 0, .slice none 0 0]] [(0, v3), (1, v5)]).flatten.toArray) = v6 at r6
 refine EL_pur (v := v6) (n0 ▸ P_build (vs := [(0, v3), (1, v5)]) [[.int .i64 0, .slice none 0 0], [.int .i64 0, .slice none 0 0]] lay_28 rfl rfl (.cons rfl (.cons rfl .nil)) ⟨⟨_, rfl, cells_size r3⟩, ⟨⟨_, rfl, cells_size r5⟩, trivial⟩⟩) .plain rfl ?_
 refine EL_do .plain rfl (D_storeOc (g := g4) (v := v6) Try.sizeOf28 rfl b1 rfl r6 fun g7 w7 hs b7 cb => ?_)
 clear cb
 have hfr := hfr.stp hs
 refine EL_nil (thn_n (E_ret ?_))
 obtain rfl := sinj h
 obtain ⟨ad8, cv8, hp8, o0, cr8⟩ := ob_read Try.isAgg28 Try.sizeOf28 b7
 exact endm_c rfl rfl ((show _ = p1 from rfl).trans hp8) o0 ⟨_, hfr, cr8⟩
theorem v76_0 {iO : Nat} {gI : Gh} {wI : World} {x0 : List Int} {up0 : Value} (rp0 : RV gI.m wI x0 up0) {r : List Int} (h : f76 x0 = some r) : FnG Try.prog 76 #[up0] gI wI (fun g w v => OM iO g w 3 r v) := by
 unfold f76 at h
 refine fnG_of_E Try.func76 rfl (Nat.le_of_ble_eq_true rfl) fun g0 hm hfr => ?_
 have rp0 : RV g0.m wI x0 up0 := hm ▸ rp0
 show E _ 8 none _ _ _ _ _
 refine E_seq (E_region (EL_at (.slice none 0 0) rfl rfl (EL_nil (thn_n ?_))))
 refine E_seq (E_seq (E_region (EL_mw up0 rfl rfl ?_)))
 obtain ⟨a, c, hv, hc, hrow⟩ := RV_list rp0
 refine EL_pur (v := .bool a.isNone) (P_slnil Try.underlying22 (show ev _ _ = _ from hv)) .plain rfl (EL_nil (thn_n ?_))
 cases a with
 | none =>
  have hx : x0 = [] := by
   cases x0 with
   | nil => rfl
   | cons y ys => obtain ⟨b, off, hb, _⟩ := hrow (by simp); cases hb
  subst hx
  have hr : r = [] := by unfold apnd at h; split at h <;> simp at h; exact h
  subst hr
  refine E_cond_true rfl (E_seq (E_region ?_))
  refine EL_at (.slice none 0 0) rfl rfl (EL_nil (thn_n ?_))
  obtain ⟨gh, hxh, homh⟩ := OM.handn (i := iO) (t := 3) (α := Int) hfr; exact E_ret (thn_r (end1 rfl rfl (show _ = .slice none 0 0 from rfl) ⟨gh, hxh, homh⟩))
 | some a =>
  refine E_cond_false rfl (E_skip (thn_n ?_))
  refine E_seq (E_region (EL_do .plain rfl (D_buildSlice (g := g0) 1 (xs := ([] : List Int)) (vs := []) Try.underlying22 Try.sizeOf3 Try.zeroValue3 rfl rfl .nil RVs.nil rfl rfl fun g1 w1 v1 hs o1 r1 hxt hfl => ?_)))
  have hfr := hfr.stp hs
  have rp0 := rp0.stp hs
  refine EL_mw up0 rfl rfl ?_
  refine EL_do .plain rfl (D_append (g := g1) (i := 1) Try.underlying22 info_3 rfl rfl o1 r1 rfl rp0 h fun g2 w2 v2 hs o2 r2 _ => ?_)
  have hfr := hfr.stp hs
  refine EL_at v2 rfl rfl (EL_nil (thn_n ?_))
  obtain ⟨gh, hxh, homh⟩ := OM.hand (i := iO) plain_int hfr o2 r2; exact E_ret (end1 rfl rfl (show _ = v2 from rfl) ⟨gh, hxh, homh⟩)
/-- griffe/grifferef03.Same -/
def f57 (x0 : TieHarness) (x1 : TieHarness) : Option (Bool) :=
 jn (σ := Unit) (fun (_ : Unit) =>
  jn (σ := Unit) (fun (_ : Unit) =>
   some (true)
   ) fun u3 =>
  lp (σ := Int) (fun z3 j0 =>
   jn (σ := Unit) (fun (_ : Unit) =>
    jn (σ := Unit) (fun (_ : Unit) =>
     z3 ((w64 (j0 + (1 : Int))))
     ) fun c4 =>
    (idx ((x0).Warps) j0).bind fun z1 =>
    (idx ((x1).Warps) j0).bind fun d2 =>
    bif (z1 != d2) then
     some (false)
    else
     c4 ()
    ) fun d4 =>
   bif (decide (j0 < (((x0).Warps).length : Int))) then
    d4 ()
   else
    u3 ()
   ) big ((0 : Int))
  ) fun c6 =>
 Option.bind (α := Bool) (
  bif ((x0).Hooks != (x1).Hooks) then
   some (true)
  else
   some (((((x0).Warps).length : Int) != (((x1).Warps).length : Int)))
  ) fun o0 =>
 bif o0 then
  some (false)
 else
  c6 ()
theorem en57 : Enters Try.prog 57 := enters_of Try.func57 (by kernel_rfl) rfl
theorem wk57 {gI : Gh} {wI : World} {x0 : TieHarness} {x1 : TieHarness} {up0 : Value} (rp0 : RV gI.m wI x0 up0) {up1 : Value} (rp1 : RV gI.m wI x1 up1) {r : Bool} (h : f57 x0 x1 = some r) : Fn Try.prog 57 #[up0, up1] gI wI (fun _ _ v => v = .bool (r)) := by
 unfold f57 at h
 refine fn_of_E Try.func57 rfl (Nat.le_of_ble_eq_true rfl) fun g0 hm hfr => ?_
 have rp0 : RV g0.m wI x0 up0 := hm ▸ rp0
 have rp1 : RV g0.m wI x1 up1 := hm ▸ rp1
 show E _ 38 none _ _ _ _ _
 refine E_seq (E_region (EL_do .plain rfl (D_box (g := g0) rfl rp0 fun g1 w1 p1 hs q1 => ?_)))
 have hfr := hfr.ext hs
 have rp1 := rp1.ext hs
 refine EL_do .plain rfl (D_box (g := g1) rfl rp1 fun g2 w2 p2 hs q2 => ?_)
 have hfr := hfr.ext hs
 have q1 := q1.ext hs
 refine EL_at (.bool false) rfl rfl ?_
 refine EL_nil (thn_n (E_joinC h (fun (s : Unit) e w => ∃ (g : Gh) , Fr gI wI g w ∧ e 2 = p1 ∧ PT g.m w (x0 : TieHarness) p1 ∧ e 3 = p2 ∧ PT g.m w (x1 : TieHarness) p2) (fun X23 c6 d6 h => ?_) ?_))
 ·obtain ⟨o0, hx, h⟩ := bsome h
  refine E_join (fun e w => ∃ (g : Gh) , Fr gI wI g w ∧ e 2 = p1 ∧ PT g.m w (x0 : TieHarness) p1 ∧ e 3 = p2 ∧ PT g.m w (x1 : TieHarness) p2 ∧ e 19 = .bool (o0)) (fun Q' hQ => ?_) (fun l7 y7 hR => ?_)
  ·replace h := hx
   clear hx
   refine E_region (EL_pur (v := fPtr p1 0) (P_fieldAddr at_24_0 rfl (PT.ptr q1)) .plain rfl ?_)
   have t6 := PT_field (part_TieHarness_0).1 q1
   refine EL_do .plain rfl (D_load (g := g2) Try.isAgg3 Try.sizeOf3 rfl t6 fun z7 u6 => ?_)
   obtain rfl := RV_int.1 u6
   refine EL_pur (v := fPtr p2 0) (P_fieldAddr at_24_0 rfl (PT.ptr q2)) .plain rfl ?_
   have v6 := PT_field (part_TieHarness_0).1 q2
   refine EL_do .plain rfl (D_load (g := g2) Try.isAgg3 Try.sizeOf3 rfl v6 fun a8 x6 => ?_)
   obtain rfl := RV_int.1 x6
   refine EL_in (.bool (((x0).Hooks != (x1).Hooks))) rfl rfl rfl rfl ?_
   refine EL_mw (.bool (((x0).Hooks != (x1).Hooks))) rfl rfl ?_
   rcases csome h with ⟨n0, h⟩ | ⟨n0, h⟩
   ·refine EL_skip (.no2 rfl rfl n0 rfl) rfl ?_
    refine EL_skip (.no2 rfl rfl n0 rfl) rfl ?_
    refine EL_skip (.no2 rfl rfl n0 rfl) rfl ?_
    refine EL_skip (.no2 rfl rfl n0 rfl) rfl ?_
    refine EL_skip (.no2 rfl rfl n0 rfl) rfl ?_
    refine EL_skip (.no2 rfl rfl n0 rfl) rfl ?_
    refine EL_skip (.no2 rfl rfl n0 rfl) rfl ?_
    refine EL_pur (v := .bool true) (P_pick (b := ((x0).Hooks != (x1).Hooks)) rfl (pick_t n0 rfl)) .plain rfl ?_
    refine EL_nil ?_
    obtain rfl := sinj h
    exact hQ _ _ ⟨g2, hfr, rfl, q1, rfl, q2, rfl⟩
   ·refine EL_pur (v := fPtr p1 1) (P_fieldAddr at_24_1 rfl (PT.ptr q1)) (.yes2 rfl rfl n0) rfl ?_
    have y6 := PT_field (part_TieHarness_1).1 q1
    refine EL_do (.yes2 rfl rfl n0) rfl (D_load (g := g2) Try.isAgg22 Try.sizeOf22 rfl y6 fun b8 z6 => ?_)
    refine EL_pur (v := .int .i64 (((x0).Warps).length : Int)) (P_len Try.underlying22 rfl z6) (.yes2 rfl rfl n0) rfl ?_
    refine EL_pur (v := fPtr p2 1) (P_fieldAddr at_24_1 rfl (PT.ptr q2)) (.yes2 rfl rfl n0) rfl ?_
    have a7 := PT_field (part_TieHarness_1).1 q2
    refine EL_do (.yes2 rfl rfl n0) rfl (D_load (g := g2) Try.isAgg22 Try.sizeOf22 rfl a7 fun c8 b7 => ?_)
    refine EL_pur (v := .int .i64 (((x1).Warps).length : Int)) (P_len Try.underlying22 rfl b7) (.yes2 rfl rfl n0) rfl ?_
    refine EL_pur (v := .bool (((((x0).Warps).length : Int) != (((x1).Warps).length : Int)))) (P_int rfl rfl rfl) (.yes2 rfl rfl n0) rfl ?_
    refine EL_pur (v := .bool (((((x0).Warps).length : Int) != (((x1).Warps).length : Int)))) (P_pick (b := ((x0).Hooks != (x1).Hooks)) rfl (pick_f n0 rfl)) .plain rfl ?_
    refine EL_nil ?_
    obtain rfl := sinj h
    exact hQ _ _ ⟨g2, hfr, rfl, q1, rfl, q2, rfl⟩
  ·clear hx
   obtain ⟨c7, hfr, d5, i5, j5, l5, s2⟩ := hR
   rcases csome h with ⟨o3, h⟩ | ⟨o3, h⟩
   ·refine E_cond_true (Eq.trans (show ev _ _ = .bool (o0) from s2) (congrArg Value.bool o3)) ?_
    refine E_seq (E_region (EL_at (.bool false) rfl rfl ?_))
    refine EL_nil (thn_n (E_ret (thn_r ?_)))
    obtain rfl := sinj h
    exact end1 rfl rfl (show _ = .bool false from rfl) ⟨_, hfr, rfl⟩
   ·refine E_cond_false (Eq.trans (show ev _ _ = .bool (o0) from s2) (congrArg Value.bool o3)) ?_
    exact E_skip (thn_n (d6 () _ _ ⟨c7, hfr, d5, i5, j5, l5⟩ h))
 ·rintro _ m7 d8 ⟨d7, hfr, m5, n5, o5, p5⟩ h
  refine E_joinC h (fun (s : Unit) e w => ∃ (g : Gh) , Fr gI wI g w) (fun X109 u3 q5 h => ?_) ?_
  ·refine E_seq (E_region (EL_at (.int .i64 (0)) rfl rfl ?_))
   refine EL_nil (thn_n (E_block ?_))
   refine E_lp h (fun (s : Int) e w => ∃ (g : Gh) , Fr gI wI g w ∧ e 2 = p1 ∧ PT g.m w (x0 : TieHarness) p1 ∧ e 3 = p2 ∧ PT g.m w (x1 : TieHarness) p2 ∧ e 5 = .int .i64 (s)) ⟨d7, hfr, m5, n5, o5, p5, rfl⟩ (fun X110 z3 t5 => ?_)
   rintro j0 e7 n7 ⟨p3, hfr, z2, i1, i4, j4, d3⟩ h
   refine E_joinC h (fun (s : Unit) e w => ∃ (g : Gh) , Fr gI wI g w ∧ e 2 = p1 ∧ PT g.m w (x0 : TieHarness) p1 ∧ e 3 = p2 ∧ PT g.m w (x1 : TieHarness) p2 ∧ e 5 = .int .i64 (j0)) (fun X115 d4 u5 h => ?_) ?_
   ·refine E_seq (E_region (EL_mv d3 rfl ?_))
    refine EL_pur (v := fPtr p1 1) (P_fieldAddr at_24_1 z2 (PT.ptr i1)) .plain rfl ?_
    have e6 := PT_field (part_TieHarness_1).1 i1
    refine EL_do .plain rfl (D_load (g := p3) Try.isAgg22 Try.sizeOf22 rfl e6 fun o7 i6 => ?_)
    refine EL_pur (v := .int .i64 (((x0).Warps).length : Int)) (P_len Try.underlying22 rfl i6) .plain rfl ?_
    refine EL_pur (v := .bool ((decide (j0 < (((x0).Warps).length : Int))))) (P_int rfl rfl rfl) .plain rfl ?_
    refine EL_nil (thn_n ?_)
    rcases csome h with ⟨i2, h⟩ | ⟨i2, h⟩
    ·refine E_ct i2 rfl ?_
     exact E_skip (thn_n (u5 () _ _ ⟨p3, hfr, z2, i1, i4, j4, d3⟩ h))
    ·refine E_cf i2 rfl ?_
     refine E_exit ?_
     refine thn_e ?_
     refine thn_e ?_
     refine blk_hit ?_
     exact thn_n (q5 () _ _ ⟨p3, hfr⟩ h)
   ·rintro _ g7 p7 ⟨j6, hfr, i3, u0, j3, y0, j1⟩ h
    refine E_joinC h (fun (s : Unit) e w => ∃ (g : Gh) , Fr gI wI g w ∧ e 2 = p1 ∧ PT g.m w (x0 : TieHarness) p1 ∧ e 3 = p2 ∧ PT g.m w (x1 : TieHarness) p2 ∧ e 5 = .int .i64 (j0)) (fun X146 c4 x5 h => ?_) ?_
    ·refine E_block ?_
     refine E_seq ?_
     have k6 := PT_field (part_TieHarness_1).1 u0
     refine L_load (x := .tmp 27) Try.isAgg22 Try.sizeOf22 k6 fun m4 n4 y5 => ?_
     obtain ⟨z1, q3, h⟩ := bsome h
     have l6 := PT_idx n4 q3
     refine L_load (x := .tmp 30) Try.isAgg3 Try.sizeOf3 l6 fun q7 m6 z5 => ?_
     obtain rfl := RV_int.1 m6
     have n6 := PT_field (part_TieHarness_1).1 y0
     refine L_load (x := .tmp 32) Try.isAgg22 Try.sizeOf22 n6 fun o4 p4 a6 => ?_
     obtain ⟨d2, s3, h⟩ := bsome h
     have o6 := PT_idx p4 s3
     refine L_load (x := .tmp 35) Try.isAgg3 Try.sizeOf3 o6 fun r7 p6 b6 => ?_
     obtain rfl := RV_int.1 p6
     refine E_drawL (g := j6) (n := 11) [] [0, 1, 2, 3, 4, 5, 6, 7, 8, 9, 10] rfl mixed (by kernel_rfl) trivial ?_
     refine L_pur (c := fPtr p1 1) rfl rfl .plain (fun _ _ hd => P_fieldAddr at_24_1 i3 (PT.ptr u0)) ?_
     refine L_ld (c := m4) rfl rfl .plain (fun _ _ h => h.ch) y5 rfl ?_
     refine L_pur (c := .int .i64 (j0)) rfl rfl .plain (fun _ _ hd => P_move j1) ?_
     refine L_pur (c := ePtr m4 j0 1) rfl rfl .plain (fun _ _ hd => P_indexAddr (α := Int) Try.underlying22 Try.sizeOf3 rfl n4 rfl q3) ?_
     refine L_ld (c := .int .i64 (z1)) rfl rfl .plain (fun _ _ h => h.ch) z5 rfl ?_
     refine L_pur (c := fPtr p2 1) rfl rfl .plain (fun _ _ hd => P_fieldAddr at_24_1 j3 (PT.ptr y0)) ?_
     refine L_ld (c := o4) rfl rfl .plain (fun _ _ h => h.ch) a6 rfl ?_
     refine L_pur (c := .int .i64 (j0)) rfl rfl .plain (fun _ _ hd => P_move j1) ?_
     refine L_pur (c := ePtr o4 j0 1) rfl rfl .plain (fun _ _ hd => P_indexAddr (α := Int) Try.underlying22 Try.sizeOf3 rfl p4 rfl s3) ?_
     refine L_ld (c := .int .i64 (d2)) rfl rfl .plain (fun _ _ h => h.ch) b6 rfl ?_
     refine L_pur (c := .bool ((z1 != d2))) rfl rfl .plain (fun _ _ hd => P_int rfl rfl rfl) ?_
     refine L_nil fun q6 t7 hall => ?_
     have hs := hall.1
     have hfr := hfr.ext hs
     have u0 := u0.ext hs
     have y0 := y0.ext hs
     clear hs hall
     refine EL_nil (thn_n ?_)
     rcases csome h with ⟨j2, h⟩ | ⟨j2, h⟩
     ·refine E_ct j2 rfl ?_
      refine E_seq (E_region (EL_at (.bool false) rfl rfl ?_))
      refine EL_nil (thn_n (E_ret (blk_r ?_)))
      refine thn_r ?_
      refine thn_r ?_
      refine blk_r ?_
      refine thn_r ?_
      obtain rfl := sinj h
      exact end1 rfl rfl (show _ = .bool false from rfl) ⟨_, hfr, rfl⟩
     ·refine E_cf j2 rfl ?_
      exact E_skip (blk_n (thn_n (x5 () _ _ ⟨q6, hfr, i3, u0, j3, y0, j1⟩ h)))
    ·rintro _ i7 u7 ⟨r6, hfr, q4, u4, x4, z4, c5⟩ h
     refine E_region (EL_mv c5 rfl ?_)
     refine EL_in (.int .i64 ((w64 (j0 + (1 : Int))))) rfl rfl rfl rfl ?_
     refine EL_at (.int .i64 ((w64 (j0 + (1 : Int))))) rfl rfl ?_
     exact EL_nil (thn_n (t5 ((w64 (j0 + (1 : Int)))) _ _ ⟨r6, hfr, q4, u4, x4, z4, rfl⟩ h))
  ·rintro _ j7 v7 ⟨x7, hfr⟩ h
   refine E_seq (E_region (EL_at (.bool true) rfl rfl ?_))
   refine EL_nil (thn_n (E_ret ?_))
   obtain rfl := sinj h
   exact end1 rfl rfl (show _ = .bool true from rfl) ⟨_, hfr, rfl⟩
/-- griffe/grifferef05.Damage -/
def f59 (x0 : FaultLoom) (x1 : FaultDamage) : Option (Bool) :=
 (f24 ((x1).Pick) ((0 : Int)) ((w64 (((((x0).Design).Rows).length : Int) - (1 : Int))))).bind fun y9 =>
 (f24 ((x1).Hook) ((0 : Int)) ((w64 (((x0).Design).Hooks - (1 : Int))))).bind fun z2 =>
 (f24 ((x1).Warp) ((0 : Int)) ((w64 (((((x0).Harness).Warps).length : Int) - (1 : Int))))).bind fun y23 =>
 jn (σ := Unit) (fun (_ : Unit) =>
  some (false)
  ) fun p4 =>
 bif ((x1).Kind == (1 : Int)) then
  Option.bind (α := Bool) (
   bif y9 then
    bif z2 then
     bif ((x1).Warp == (0 : Int)) then
      some ((!(x1).Up))
     else
      some (false)
    else
     some (false)
   else
    some (false)
   ) fun o3 =>
  some (o3)
 else
  bif ((x1).Kind == (2 : Int)) then
   Option.bind (α := Bool) (
    bif z2 then
     bif ((x1).Pick == (0 : Int)) then
      some (((x1).Warp == (0 : Int)))
     else
      some (false)
    else
     some (false)
    ) fun p3 =>
   some (p3)
  else
   Option.bind (α := Bool) (
    bif ((x1).Kind == (3 : Int)) then
     some (((x1).Kind == (3 : Int)))
    else
     some (((x1).Kind == (4 : Int)))
    ) fun i3 =>
   bif i3 then
    Option.bind (α := Bool) (
     bif y9 then
      bif ((x1).Hook == (0 : Int)) then
       bif ((x1).Warp == (0 : Int)) then
        some ((!(x1).Up))
       else
        some (false)
      else
       some (false)
     else
      some (false)
     ) fun s3 =>
    some (s3)
   else
    bif ((x1).Kind == (5 : Int)) then
     Option.bind (α := Bool) (
      bif y23 then
       bif ((x1).Pick == (0 : Int)) then
        bif ((x1).Hook == (0 : Int)) then
         some ((!(x1).Up))
        else
         some (false)
       else
        some (false)
      else
       some (false)
      ) fun u3 =>
     some (u3)
    else
     p4 ()
theorem en59 : Enters Try.prog 59 := enters_of Try.func59 (by kernel_rfl) rfl
theorem wk59 {gI : Gh} {wI : World} {x0 : FaultLoom} {x1 : FaultDamage} {up0 : Value} (rp0 : RV gI.m wI x0 up0) {up1 : Value} (rp1 : RV gI.m wI x1 up1) {r : Bool} (h : f59 x0 x1 = some r) : Fn Try.prog 59 #[up0, up1] gI wI (fun _ _ v => v = .bool (r)) := by
 unfold f59 at h
 refine fn_of_E Try.func59 rfl (Nat.le_of_ble_eq_true rfl) fun g0 hm hfr => ?_
 have rp0 : RV g0.m wI x0 up0 := hm ▸ rp0
 have rp1 : RV g0.m wI x1 up1 := hm ▸ rp1
 show E _ 99 none _ _ _ _ _
 refine E_seq (E_region (EL_do .plain rfl (D_box (g := g0) rfl rp0 fun g1 w1 p1 hs q1 => ?_)))
 have hfr := hfr.ext hs
 have rp1 := rp1.ext hs
 refine EL_do .plain rfl (D_box (g := g1) rfl rp1 fun g2 w2 p2 hs q2 => ?_)
 have hfr := hfr.ext hs
 have q1 := q1.ext hs
 refine EL_at (.bool false) rfl rfl ?_
 refine EL_nil (thn_n (E_seq ?_))
 have q3 := PT_field (part_FaultDamage_1).1 q2
 refine L_load (x := .tmp 8) Try.isAgg3 Try.sizeOf3 q3 fun v4 r4 z6 => ?_
 obtain rfl := RV_int.1 r4
 have q5 := PT_field (part_FaultLoom_1).1 q1
 have q6 := PT_field (part_Design_1).1 q5
 refine L_load (x := .tmp 11) Try.isAgg22 Try.sizeOf22 q6 fun v7 r7 a7 => ?_
 obtain ⟨y9, b7, h⟩ := bsome h
 have c7 := PT_field (part_FaultDamage_2).1 q2
 refine L_load (x := .tmp 16) Try.isAgg3 Try.sizeOf3 c7 fun a9 d7 m5 => ?_
 obtain rfl := RV_int.1 d7
 have j5 := PT_field (part_FaultLoom_1).1 q1
 have e7 := PT_field (part_Design_0).1 j5
 refine L_load (x := .tmp 19) Try.isAgg3 Try.sizeOf3 e7 fun b9 g7 n5 => ?_
 obtain rfl := RV_int.1 g7
 obtain ⟨z2, o5, h⟩ := bsome h
 have i7 := PT_field (part_FaultDamage_3).1 q2
 refine L_load (x := .tmp 23) Try.isAgg3 Try.sizeOf3 i7 fun c9 j7 p5 => ?_
 obtain rfl := RV_int.1 j7
 have l5 := PT_field (part_FaultLoom_0).1 q1
 have l7 := PT_field (part_TieHarness_1).1 l5
 refine L_load (x := .tmp 26) Try.isAgg22 Try.sizeOf22 l7 fun m7 n7 t5 => ?_
 obtain ⟨y23, u5, h⟩ := bsome h
 refine E_drawL (g := g2) (n := 26) [(7, (fun v g w => v = .bool (y9))), (14, (fun v g w => v = .bool (z2))), (22, (fun v g w => v = .bool (y23)))] [0, 1, 2, 3, 4, 5, 6, 7, 8, 9, 10, 11, 12, 13, 14, 15, 16, 17, 18, 19, 20, 21, 22, 23, 24, 25] rfl mixed (by kernel_rfl) (⟨fun _ => up_eq _, fun _ => up_eq _, fun _ => up_eq _, trivial⟩) ?_
 refine L_pur (c := fPtr p2 1) rfl rfl .plain (fun _ _ hd => P_fieldAddr at_62_1 rfl (PT.ptr q2)) ?_
 refine L_ld (c := .int .i64 ((x1).Pick)) rfl rfl .plain (fun _ _ h => h.ch) z6 rfl ?_
 refine L_pur (c := fPtr p1 2) rfl rfl .plain (fun _ _ hd => P_fieldAddr at_28_1 rfl (PT.ptr q1)) ?_
 refine L_pur (c := fPtr (fPtr p1 2) 1) rfl rfl .plain (fun _ _ hd => P_fieldAddr at_26_1 rfl (PT.ptr q5)) ?_
 refine L_ld (c := v7) rfl rfl .plain (fun _ _ h => h.ch) a7 rfl ?_
 refine L_pur (c := .int .i64 ((((x0).Design).Rows).length : Int)) rfl rfl .plain (fun _ _ hd => P_len Try.underlying22 rfl r7) ?_
 refine L_pur (c := .int .i64 ((w64 (((((x0).Design).Rows).length : Int) - (1 : Int))))) rfl rfl .plain (fun _ _ hd => P_int rfl rfl rfl) ?_
 refine L_do (φ := fun v g w => v = .bool (y9)) rfl rfl .plain (fun g w hd => D_call (g := g) (vs := [.int .i64 ((x1).Pick), .int .i64 (0), .int .i64 ((w64 (((((x0).Design).Rows).length : Int) - (1 : Int))))]) en24 (.cons rfl (.cons rfl (.cons rfl .nil))) (wk24  b7) fun g' w' v hs hr => ⟨g', hs, hr⟩) (fun v8 hv => ?_)
 obtain ⟨_, _, _, rfl⟩ := hv
 refine L_pur (c := fPtr p2 2) rfl rfl .plain (fun _ _ hd => P_fieldAddr at_62_2 rfl (PT.ptr q2)) ?_
 refine L_ld (c := .int .i64 ((x1).Hook)) rfl rfl .plain (fun _ _ h => h.ch) m5 rfl ?_
 refine L_pur (c := fPtr p1 2) rfl rfl .plain (fun _ _ hd => P_fieldAddr at_28_1 rfl (PT.ptr q1)) ?_
 refine L_pur (c := fPtr (fPtr p1 2) 0) rfl rfl .plain (fun _ _ hd => P_fieldAddr at_26_0 rfl (PT.ptr j5)) ?_
 refine L_ld (c := .int .i64 (((x0).Design).Hooks)) rfl rfl .plain (fun _ _ h => h.ch) n5 rfl ?_
 refine L_pur (c := .int .i64 ((w64 (((x0).Design).Hooks - (1 : Int))))) rfl rfl .plain (fun _ _ hd => P_int rfl rfl rfl) ?_
 refine L_do (φ := fun v g w => v = .bool (z2)) rfl rfl .plain (fun g w hd => D_call (g := g) (vs := [.int .i64 ((x1).Hook), .int .i64 (0), .int .i64 ((w64 (((x0).Design).Hooks - (1 : Int))))]) en24 (.cons rfl (.cons rfl (.cons rfl .nil))) (wk24  o5) fun g' w' v hs hr => ⟨g', hs, hr⟩) (fun d9 hv => ?_)
 obtain ⟨_, _, _, rfl⟩ := hv
 refine L_pur (c := fPtr p2 3) rfl rfl .plain (fun _ _ hd => P_fieldAddr at_62_3 rfl (PT.ptr q2)) ?_
 refine L_ld (c := .int .i64 ((x1).Warp)) rfl rfl .plain (fun _ _ h => h.ch) p5 rfl ?_
 refine L_pur (c := fPtr p1 0) rfl rfl .plain (fun _ _ hd => P_fieldAddr at_28_0 rfl (PT.ptr q1)) ?_
 refine L_pur (c := fPtr (fPtr p1 0) 1) rfl rfl .plain (fun _ _ hd => P_fieldAddr at_24_1 rfl (PT.ptr l5)) ?_
 refine L_ld (c := m7) rfl rfl .plain (fun _ _ h => h.ch) t5 rfl ?_
 refine L_pur (c := .int .i64 ((((x0).Harness).Warps).length : Int)) rfl rfl .plain (fun _ _ hd => P_len Try.underlying22 rfl n7) ?_
 refine L_pur (c := .int .i64 ((w64 (((((x0).Harness).Warps).length : Int) - (1 : Int))))) rfl rfl .plain (fun _ _ hd => P_int rfl rfl rfl) ?_
 refine L_do (φ := fun v g w => v = .bool (y23)) rfl rfl .plain (fun g w hd => D_call (g := g) (vs := [.int .i64 ((x1).Warp), .int .i64 (0), .int .i64 ((w64 (((((x0).Harness).Warps).length : Int) - (1 : Int))))]) en24 (.cons rfl (.cons rfl (.cons rfl .nil))) (wk24  u5) fun g' w' v hs hr => ⟨g', hs, hr⟩) (fun e9 hv => ?_)
 obtain ⟨_, _, _, rfl⟩ := hv
 refine L_pur (c := .bool (y9)) rfl rfl .plain (fun _ _ hd => P_assign rfl) ?_
 refine L_pur (c := .bool (z2)) rfl rfl .plain (fun _ _ hd => P_assign rfl) ?_
 refine L_pur (c := .bool (y23)) rfl rfl .plain (fun _ _ hd => P_assign rfl) ?_
 refine L_nil fun d3 g9 hall => ?_
 have hs := hall.1
 have hfr := hfr.ext hs
 have q2 := q2.ext hs
 clear hs hall
 refine EL_nil (thn_n (E_joinC h (fun (s : Unit) e w => ∃ (g : Gh) , Fr gI wI g w) (fun X131 p4 i5 h => ?_) ?_))
 ·refine E_seq (E_region (EL_pur (v := fPtr p2 0) (P_fieldAddr at_62_0 rfl (PT.ptr q2)) .plain rfl ?_))
  have x5 := PT_field (part_FaultDamage_0).1 q2
  refine EL_do .plain rfl (D_load (g := d3) Try.isAgg60 Try.sizeOf60 rfl x5 fun y7 y5 => ?_)
  obtain rfl := RV_int.1 y5
  refine EL_nil (thn_n (E_block ?_))
  refine E_seq (E_region (EL_in (.bool (((x1).Kind == (1 : Int)))) rfl rfl rfl rfl ?_))
  refine EL_at (.bool (((x1).Kind == (1 : Int)))) rfl rfl ?_
  refine EL_nil (thn_n ?_)
  rcases csome h with ⟨d4, h⟩ | ⟨d4, h⟩
  ·refine E_ct d4 rfl ?_
   obtain ⟨o3, hx, h⟩ := bsome h
   refine E_join (fun e w => ∃ (g : Gh) , Fr gI wI g w ∧ e 4 = .bool (o3)) (fun Q' hQ => ?_) (fun o7 z7 hR => ?_)
   ·replace h := hx
    clear hx
    refine E_region (EL_mw (.bool (y9)) rfl rfl ?_)
    refine EL_mw (.bool (y9)) rfl rfl ?_
    rcases csome h with ⟨z3, h⟩ | ⟨z3, h⟩
    ·refine EL_pur (v := .bool (z2)) (P_move rfl) (.yes2 rfl rfl z3) rfl ?_
     refine EL_pur (v := .bool (z2)) (P_pick (b := y9) rfl (pick_t z3 rfl)) .plain rfl ?_
     refine EL_mw (.bool (z2)) rfl rfl ?_
     rcases csome h with ⟨o0, h⟩ | ⟨o0, h⟩
     ·refine EL_pur (v := fPtr p2 3) (P_fieldAddr at_62_3 rfl (PT.ptr q2)) (.yes2 rfl rfl o0) rfl ?_
      have z5 := PT_field (part_FaultDamage_3).1 q2
      refine EL_do (.yes2 rfl rfl o0) rfl (D_load (g := d3) Try.isAgg3 Try.sizeOf3 rfl z5 fun a8 a6 => ?_)
      obtain rfl := RV_int.1 a6
      refine EL_pur (v := .bool (((x1).Warp == (0 : Int)))) (P_int rfl rfl rfl) (.yes2 rfl rfl o0) rfl ?_
      refine EL_pur (v := .bool (((x1).Warp == (0 : Int)))) (P_pick (b := z2) rfl (pick_t o0 rfl)) .plain rfl ?_
      refine EL_mw (.bool (((x1).Warp == (0 : Int)))) rfl rfl ?_
      rcases csome h with ⟨u0, h⟩ | ⟨u0, h⟩
      ·refine EL_pur (v := fPtr p2 4) (P_fieldAddr at_62_4 rfl (PT.ptr q2)) (.yes2 rfl rfl u0) rfl ?_
       have b6 := PT_field (part_FaultDamage_4).1 q2
       refine EL_do (.yes2 rfl rfl u0) rfl (D_load (g := d3) Try.isAgg4 Try.sizeOf4 rfl b6 fun b8 c6 => ?_)
       obtain rfl := RV_bool.1 c6
       refine EL_pur (v := .bool (!(x1).Up)) (P_not rfl) (.yes2 rfl rfl u0) rfl ?_
       refine EL_pur (v := .bool (!(x1).Up)) (P_pick (b := ((x1).Warp == (0 : Int))) rfl (pick_t u0 rfl)) .plain rfl ?_
       refine EL_at (.bool (!(x1).Up)) rfl rfl ?_
       refine EL_nil ?_
       obtain rfl := sinj h
       exact hQ _ _ ⟨d3, hfr, rfl⟩
      ·refine EL_skip (.no2 rfl rfl u0 rfl) rfl ?_
       refine EL_skip (.no2 rfl rfl u0 rfl) rfl ?_
       refine EL_skip (.no2 rfl rfl u0 rfl) rfl ?_
       refine EL_pur (v := .bool false) (P_pick (b := ((x1).Warp == (0 : Int))) rfl (pick_f u0 rfl)) .plain rfl ?_
       refine EL_at (.bool false) rfl rfl ?_
       refine EL_nil ?_
       obtain rfl := sinj h
       exact hQ _ _ ⟨d3, hfr, rfl⟩
     ·refine EL_skip (.no2 rfl rfl o0 rfl) rfl ?_
      refine EL_skip (.no2 rfl rfl o0 rfl) rfl ?_
      refine EL_skip (.no2 rfl rfl o0 rfl) rfl ?_
      refine EL_pur (v := .bool false) (P_pick (b := z2) rfl (pick_f o0 rfl)) .plain rfl ?_
      refine EL_dead 5 rfl ?_
      refine EL_at (.bool false) rfl rfl ?_
      refine EL_nil ?_
      obtain rfl := sinj h
      exact hQ _ _ ⟨d3, hfr, rfl⟩
    ·refine EL_skip (.no2 rfl rfl z3 rfl) rfl ?_
     refine EL_pur (v := .bool false) (P_pick (b := y9) rfl (pick_f z3 rfl)) .plain rfl ?_
     refine EL_dead 10 rfl ?_
     refine EL_at (.bool false) rfl rfl ?_
     refine EL_nil ?_
     obtain rfl := sinj h
     exact hQ _ _ ⟨d3, hfr, rfl⟩
   ·clear hx
    obtain ⟨c8, hfr, q4⟩ := hR
    refine E_ret (blk_r ?_)
    refine thn_r ?_
    obtain rfl := sinj h
    exact end1 rfl rfl (show _ = .bool (o3) from q4) ⟨_, hfr, rfl⟩
  ·refine E_cf d4 rfl ?_
   refine E_seq (E_region (EL_in (.bool (((x1).Kind == (2 : Int)))) rfl rfl rfl rfl ?_))
   refine EL_at (.bool (((x1).Kind == (2 : Int)))) rfl rfl ?_
   refine EL_nil (thn_n ?_)
   rcases csome h with ⟨i4, h⟩ | ⟨i4, h⟩
   ·refine E_ct i4 rfl ?_
    obtain ⟨p3, hx, h⟩ := bsome h
    refine E_join (fun e w => ∃ (g : Gh) , Fr gI wI g w ∧ e 4 = .bool (p3)) (fun Q' hQ => ?_) (fun p7 d8 hR => ?_)
    ·replace h := hx
     clear hx
     refine E_region (EL_mw (.bool (z2)) rfl rfl ?_)
     refine EL_mw (.bool (z2)) rfl rfl ?_
     rcases csome h with ⟨y0, h⟩ | ⟨y0, h⟩
     ·refine EL_pur (v := fPtr p2 1) (P_fieldAddr at_62_1 rfl (PT.ptr q2)) (.yes2 rfl rfl y0) rfl ?_
      have d6 := PT_field (part_FaultDamage_1).1 q2
      refine EL_do (.yes2 rfl rfl y0) rfl (D_load (g := d3) Try.isAgg3 Try.sizeOf3 rfl d6 fun e8 e6 => ?_)
      obtain rfl := RV_int.1 e6
      refine EL_pur (v := .bool (((x1).Pick == (0 : Int)))) (P_int rfl rfl rfl) (.yes2 rfl rfl y0) rfl ?_
      refine EL_pur (v := .bool (((x1).Pick == (0 : Int)))) (P_pick (b := z2) rfl (pick_t y0 rfl)) .plain rfl ?_
      refine EL_mw (.bool (((x1).Pick == (0 : Int)))) rfl rfl ?_
      rcases csome h with ⟨i1, h⟩ | ⟨i1, h⟩
      ·refine EL_pur (v := fPtr p2 3) (P_fieldAddr at_62_3 rfl (PT.ptr q2)) (.yes2 rfl rfl i1) rfl ?_
       have i6 := PT_field (part_FaultDamage_3).1 q2
       refine EL_do (.yes2 rfl rfl i1) rfl (D_load (g := d3) Try.isAgg3 Try.sizeOf3 rfl i6 fun g8 j6 => ?_)
       obtain rfl := RV_int.1 j6
       refine EL_pur (v := .bool (((x1).Warp == (0 : Int)))) (P_int rfl rfl rfl) (.yes2 rfl rfl i1) rfl ?_
       refine EL_pur (v := .bool (((x1).Warp == (0 : Int)))) (P_pick (b := ((x1).Pick == (0 : Int))) rfl (pick_t i1 rfl)) .plain rfl ?_
       refine EL_at (.bool (((x1).Warp == (0 : Int)))) rfl rfl ?_
       refine EL_nil ?_
       obtain rfl := sinj h
       exact hQ _ _ ⟨d3, hfr, rfl⟩
      ·refine EL_skip (.no2 rfl rfl i1 rfl) rfl ?_
       refine EL_skip (.no2 rfl rfl i1 rfl) rfl ?_
       refine EL_skip (.no2 rfl rfl i1 rfl) rfl ?_
       refine EL_pur (v := .bool false) (P_pick (b := ((x1).Pick == (0 : Int))) rfl (pick_f i1 rfl)) .plain rfl ?_
       refine EL_at (.bool false) rfl rfl ?_
       refine EL_nil ?_
       obtain rfl := sinj h
       exact hQ _ _ ⟨d3, hfr, rfl⟩
     ·refine EL_skip (.no2 rfl rfl y0 rfl) rfl ?_
      refine EL_skip (.no2 rfl rfl y0 rfl) rfl ?_
      refine EL_skip (.no2 rfl rfl y0 rfl) rfl ?_
      refine EL_pur (v := .bool false) (P_pick (b := z2) rfl (pick_f y0 rfl)) .plain rfl ?_
      refine EL_dead 5 rfl ?_
      refine EL_at (.bool false) rfl rfl ?_
      refine EL_nil ?_
      obtain rfl := sinj h
      exact hQ _ _ ⟨d3, hfr, rfl⟩
    ·clear hx
     obtain ⟨i8, hfr, u4⟩ := hR
     refine E_ret (blk_r ?_)
     refine thn_r ?_
     obtain rfl := sinj h
     exact end1 rfl rfl (show _ = .bool (p3) from u4) ⟨_, hfr, rfl⟩
   ·refine E_cf i4 rfl ?_
    obtain ⟨i3, hx, h⟩ := bsome h
    refine E_join (fun e w => ∃ (g : Gh) , Fr gI wI g w ∧ e 3 = p2 ∧ PT g.m w (x1 : FaultDamage) p2 ∧ e 5 = .bool (y9) ∧ e 7 = .bool (y23) ∧ e 32 = .int .i64 ((x1).Kind) ∧ e 62 = .bool (i3)) (fun Q' hQ => ?_) (fun q7 j8 hR => ?_)
    ·replace h := hx
     clear hx
     refine E_seq (E_region (EL_in (.bool (((x1).Kind == (3 : Int)))) rfl rfl rfl rfl ?_))
     refine EL_at (.bool (((x1).Kind == (3 : Int)))) rfl rfl ?_
     refine EL_nil (thn_n ?_)
     rcases csome h with ⟨j4, h⟩ | ⟨j4, h⟩
     ·refine E_ct j4 rfl ?_
      refine E_skip ?_
      obtain rfl := sinj h
      exact hQ _ _ ⟨d3, hfr, rfl, q2, rfl, rfl, rfl, rfl⟩
     ·refine E_cf j4 rfl ?_
      refine E_region (EL_in (.bool (((x1).Kind == (4 : Int)))) rfl rfl rfl rfl ?_)
      refine EL_at (.bool (((x1).Kind == (4 : Int)))) rfl rfl ?_
      refine EL_nil ?_
      obtain rfl := sinj h
      exact hQ _ _ ⟨d3, hfr, rfl, q2, rfl, rfl, rfl, rfl⟩
    ·clear hx
     obtain ⟨n0, hfr, j3, j0, x4, z4, o4, c4⟩ := hR
     rcases csome h with ⟨m4, h⟩ | ⟨m4, h⟩
     ·refine E_cond_true (Eq.trans (show ev _ _ = .bool (i3) from c4) (congrArg Value.bool m4)) ?_
      obtain ⟨s3, hx, h⟩ := bsome h
      refine E_join (fun e w => ∃ (g : Gh) , Fr gI wI g w ∧ e 4 = .bool (s3)) (fun Q' hQ => ?_) (fun t7 k8 hR => ?_)
      ·replace h := hx
       clear hx
       refine E_region (EL_mv x4 rfl ?_)
       refine EL_mw (.bool (y9)) rfl rfl ?_
       rcases csome h with ⟨j1, h⟩ | ⟨j1, h⟩
       ·refine EL_pur (v := fPtr p2 2) (P_fieldAddr at_62_2 j3 (PT.ptr j0)) (.yes2 rfl rfl j1) rfl ?_
        have k6 := PT_field (part_FaultDamage_2).1 j0
        refine EL_do (.yes2 rfl rfl j1) rfl (D_load (g := n0) Try.isAgg3 Try.sizeOf3 rfl k6 fun l8 l6 => ?_)
        obtain rfl := RV_int.1 l6
        refine EL_pur (v := .bool (((x1).Hook == (0 : Int)))) (P_int rfl rfl rfl) (.yes2 rfl rfl j1) rfl ?_
        refine EL_pur (v := .bool (((x1).Hook == (0 : Int)))) (P_pick (b := y9) rfl (pick_t j1 rfl)) .plain rfl ?_
        refine EL_mw (.bool (((x1).Hook == (0 : Int)))) rfl rfl ?_
        rcases csome h with ⟨z1, h⟩ | ⟨z1, h⟩
        ·refine EL_pur (v := fPtr p2 3) (P_fieldAddr at_62_3 j3 (PT.ptr j0)) (.yes2 rfl rfl z1) rfl ?_
         have m6 := PT_field (part_FaultDamage_3).1 j0
         refine EL_do (.yes2 rfl rfl z1) rfl (D_load (g := n0) Try.isAgg3 Try.sizeOf3 rfl m6 fun m8 n6 => ?_)
         obtain rfl := RV_int.1 n6
         refine EL_pur (v := .bool (((x1).Warp == (0 : Int)))) (P_int rfl rfl rfl) (.yes2 rfl rfl z1) rfl ?_
         refine EL_pur (v := .bool (((x1).Warp == (0 : Int)))) (P_pick (b := ((x1).Hook == (0 : Int))) rfl (pick_t z1 rfl)) .plain rfl ?_
         refine EL_mw (.bool (((x1).Warp == (0 : Int)))) rfl rfl ?_
         rcases csome h with ⟨d2, h⟩ | ⟨d2, h⟩
         ·refine EL_pur (v := fPtr p2 4) (P_fieldAddr at_62_4 j3 (PT.ptr j0)) (.yes2 rfl rfl d2) rfl ?_
          have o6 := PT_field (part_FaultDamage_4).1 j0
          refine EL_do (.yes2 rfl rfl d2) rfl (D_load (g := n0) Try.isAgg4 Try.sizeOf4 rfl o6 fun n8 p6 => ?_)
          obtain rfl := RV_bool.1 p6
          refine EL_pur (v := .bool (!(x1).Up)) (P_not rfl) (.yes2 rfl rfl d2) rfl ?_
          refine EL_pur (v := .bool (!(x1).Up)) (P_pick (b := ((x1).Warp == (0 : Int))) rfl (pick_t d2 rfl)) .plain rfl ?_
          refine EL_at (.bool (!(x1).Up)) rfl rfl ?_
          refine EL_nil ?_
          obtain rfl := sinj h
          exact hQ _ _ ⟨n0, hfr, rfl⟩
         ·refine EL_skip (.no2 rfl rfl d2 rfl) rfl ?_
          refine EL_skip (.no2 rfl rfl d2 rfl) rfl ?_
          refine EL_skip (.no2 rfl rfl d2 rfl) rfl ?_
          refine EL_pur (v := .bool false) (P_pick (b := ((x1).Warp == (0 : Int))) rfl (pick_f d2 rfl)) .plain rfl ?_
          refine EL_at (.bool false) rfl rfl ?_
          refine EL_nil ?_
          obtain rfl := sinj h
          exact hQ _ _ ⟨n0, hfr, rfl⟩
        ·refine EL_skip (.no2 rfl rfl z1 rfl) rfl ?_
         refine EL_skip (.no2 rfl rfl z1 rfl) rfl ?_
         refine EL_skip (.no2 rfl rfl z1 rfl) rfl ?_
         refine EL_pur (v := .bool false) (P_pick (b := ((x1).Hook == (0 : Int))) rfl (pick_f z1 rfl)) .plain rfl ?_
         refine EL_dead 5 rfl ?_
         refine EL_at (.bool false) rfl rfl ?_
         refine EL_nil ?_
         obtain rfl := sinj h
         exact hQ _ _ ⟨n0, hfr, rfl⟩
       ·refine EL_skip (.no2 rfl rfl j1 rfl) rfl ?_
        refine EL_skip (.no2 rfl rfl j1 rfl) rfl ?_
        refine EL_skip (.no2 rfl rfl j1 rfl) rfl ?_
        refine EL_pur (v := .bool false) (P_pick (b := y9) rfl (pick_f j1 rfl)) .plain rfl ?_
        refine EL_dead 10 rfl ?_
        refine EL_at (.bool false) rfl rfl ?_
        refine EL_nil ?_
        obtain rfl := sinj h
        exact hQ _ _ ⟨n0, hfr, rfl⟩
      ·clear hx
       obtain ⟨o8, hfr, c5⟩ := hR
       refine E_ret (blk_r ?_)
       refine thn_r ?_
       obtain rfl := sinj h
       exact end1 rfl rfl (show _ = .bool (s3) from c5) ⟨_, hfr, rfl⟩
     ·refine E_cond_false (Eq.trans (show ev _ _ = .bool (i3) from c4) (congrArg Value.bool m4)) ?_
      refine E_seq (E_region (EL_in (.bool (((x1).Kind == (5 : Int)))) o4 rfl rfl rfl ?_))
      refine EL_at (.bool (((x1).Kind == (5 : Int)))) rfl rfl ?_
      refine EL_nil (thn_n ?_)
      rcases csome h with ⟨n4, h⟩ | ⟨n4, h⟩
      ·refine E_ct n4 rfl ?_
       obtain ⟨u3, hx, h⟩ := bsome h
       refine E_join (fun e w => ∃ (g : Gh) , Fr gI wI g w ∧ e 4 = .bool (u3)) (fun Q' hQ => ?_) (fun u7 p8 hR => ?_)
       ·replace h := hx
        clear hx
        refine E_region (EL_mv z4 rfl ?_)
        refine EL_mw (.bool (y23)) rfl rfl ?_
        rcases csome h with ⟨i2, h⟩ | ⟨i2, h⟩
        ·refine EL_pur (v := fPtr p2 1) (P_fieldAddr at_62_1 j3 (PT.ptr j0)) (.yes2 rfl rfl i2) rfl ?_
         have r6 := PT_field (part_FaultDamage_1).1 j0
         refine EL_do (.yes2 rfl rfl i2) rfl (D_load (g := n0) Try.isAgg3 Try.sizeOf3 rfl r6 fun q8 t6 => ?_)
         obtain rfl := RV_int.1 t6
         refine EL_pur (v := .bool (((x1).Pick == (0 : Int)))) (P_int rfl rfl rfl) (.yes2 rfl rfl i2) rfl ?_
         refine EL_pur (v := .bool (((x1).Pick == (0 : Int)))) (P_pick (b := y23) rfl (pick_t i2 rfl)) .plain rfl ?_
         refine EL_mw (.bool (((x1).Pick == (0 : Int)))) rfl rfl ?_
         rcases csome h with ⟨j2, h⟩ | ⟨j2, h⟩
         ·refine EL_pur (v := fPtr p2 2) (P_fieldAddr at_62_2 j3 (PT.ptr j0)) (.yes2 rfl rfl j2) rfl ?_
          have u6 := PT_field (part_FaultDamage_2).1 j0
          refine EL_do (.yes2 rfl rfl j2) rfl (D_load (g := n0) Try.isAgg3 Try.sizeOf3 rfl u6 fun r8 v6 => ?_)
          obtain rfl := RV_int.1 v6
          refine EL_pur (v := .bool (((x1).Hook == (0 : Int)))) (P_int rfl rfl rfl) (.yes2 rfl rfl j2) rfl ?_
          refine EL_pur (v := .bool (((x1).Hook == (0 : Int)))) (P_pick (b := ((x1).Pick == (0 : Int))) rfl (pick_t j2 rfl)) .plain rfl ?_
          refine EL_mw (.bool (((x1).Hook == (0 : Int)))) rfl rfl ?_
          rcases csome h with ⟨s2, h⟩ | ⟨s2, h⟩
          ·refine EL_pur (v := fPtr p2 4) (P_fieldAddr at_62_4 j3 (PT.ptr j0)) (.yes2 rfl rfl s2) rfl ?_
           have x6 := PT_field (part_FaultDamage_4).1 j0
           refine EL_do (.yes2 rfl rfl s2) rfl (D_load (g := n0) Try.isAgg4 Try.sizeOf4 rfl x6 fun t8 y6 => ?_)
           obtain rfl := RV_bool.1 y6
           refine EL_pur (v := .bool (!(x1).Up)) (P_not rfl) (.yes2 rfl rfl s2) rfl ?_
           refine EL_pur (v := .bool (!(x1).Up)) (P_pick (b := ((x1).Hook == (0 : Int))) rfl (pick_t s2 rfl)) .plain rfl ?_
           refine EL_at (.bool (!(x1).Up)) rfl rfl ?_
           refine EL_nil ?_
           obtain rfl := sinj h
           exact hQ _ _ ⟨n0, hfr, rfl⟩
          ·refine EL_skip (.no2 rfl rfl s2 rfl) rfl ?_
           refine EL_skip (.no2 rfl rfl s2 rfl) rfl ?_
           refine EL_skip (.no2 rfl rfl s2 rfl) rfl ?_
           refine EL_pur (v := .bool false) (P_pick (b := ((x1).Hook == (0 : Int))) rfl (pick_f s2 rfl)) .plain rfl ?_
           refine EL_at (.bool false) rfl rfl ?_
           refine EL_nil ?_
           obtain rfl := sinj h
           exact hQ _ _ ⟨n0, hfr, rfl⟩
         ·refine EL_skip (.no2 rfl rfl j2 rfl) rfl ?_
          refine EL_skip (.no2 rfl rfl j2 rfl) rfl ?_
          refine EL_skip (.no2 rfl rfl j2 rfl) rfl ?_
          refine EL_pur (v := .bool false) (P_pick (b := ((x1).Pick == (0 : Int))) rfl (pick_f j2 rfl)) .plain rfl ?_
          refine EL_dead 5 rfl ?_
          refine EL_at (.bool false) rfl rfl ?_
          refine EL_nil ?_
          obtain rfl := sinj h
          exact hQ _ _ ⟨n0, hfr, rfl⟩
        ·refine EL_skip (.no2 rfl rfl i2 rfl) rfl ?_
         refine EL_skip (.no2 rfl rfl i2 rfl) rfl ?_
         refine EL_skip (.no2 rfl rfl i2 rfl) rfl ?_
         refine EL_pur (v := .bool false) (P_pick (b := y23) rfl (pick_f i2 rfl)) .plain rfl ?_
         refine EL_dead 10 rfl ?_
         refine EL_at (.bool false) rfl rfl ?_
         refine EL_nil ?_
         obtain rfl := sinj h
         exact hQ _ _ ⟨n0, hfr, rfl⟩
       ·clear hx
        obtain ⟨x8, hfr, d5⟩ := hR
        refine E_ret (blk_r ?_)
        refine thn_r ?_
        obtain rfl := sinj h
        exact end1 rfl rfl (show _ = .bool (u3) from d5) ⟨_, hfr, rfl⟩
      ·refine E_cf n4 rfl ?_
       exact E_skip (blk_n (thn_n (i5 () _ _ ⟨n0, hfr⟩ h)))
 ·rintro _ x7 y8 ⟨z8, hfr⟩ h
  refine E_seq (E_region (EL_at (.bool false) rfl rfl ?_))
  refine EL_nil (thn_n (E_ret ?_))
  obtain rfl := sinj h
  exact end1 rfl rfl (show _ = .bool false from rfl) ⟨_, hfr, rfl⟩
/-- slices.IndexFunc[[][]int,[]int] -/
def f69 (x0 : List (List Int)) (x1 : (List Int) → Option Bool) : Option (Int) :=
 jn (σ := Unit) (fun (_ : Unit) =>
  some ((-1 : Int))
  ) fun k18 =>
 lp (σ := Int) (fun k19 j0 =>
  bif (decide (j0 < ((x0).length : Int))) then
   jn (σ := Unit) (fun (_ : Unit) =>
    k19 ((w64 (j0 + (1 : Int))))
    ) fun k28 =>
   (idx x0 j0).bind fun i3 =>
   (x1 i3).bind fun j3 =>
   bif j3 then
    some (j0)
   else
    k28 ()
  else
   k18 ()
  ) big ((0 : Int))
theorem en69 : Enters Try.prog 69 := enters_of Try.func69 (by kernel_rfl) rfl
theorem wk69 {gI : Gh} {wI : World} {x0 : List (List Int)} {x1 : (List Int) → Option Bool} {up0 : Value} (rp0 : RV gI.m wI x0 up0) {up1 : Value} (rp1 : FnV1 Try.prog x1 up1 gI wI) {r : Int} (h : f69 x0 x1 = some r) : Fn Try.prog 69 #[up0, up1] gI wI (fun _ _ v => v = .int .i64 (r)) := by
 unfold f69 at h
 refine fn_of_E Try.func69 rfl (Nat.le_of_ble_eq_true rfl) fun g0 hm hfr => ?_
 have rp0 : RV g0.m wI x0 up0 := hm ▸ rp0
 obtain ⟨ff1, fa1, fc1, rfl, fen1, fcl1⟩ := rp1
 show E _ 19 none _ _ _ _ _
 refine E_seq (E_region (EL_at (.int .i64 (0)) rfl rfl ?_))
 refine EL_nil (thn_n (E_joinC h (fun (s : Unit) e w => ∃ (g : Gh) , Fr gI wI g w) (fun X18 k18 o3 h => ?_) ?_))
 ·refine E_seq (E_region (EL_mw up0 rfl rfl ?_))
  refine EL_pur (v := .int .i64 ((x0).length : Int)) (P_len Try.underlying71 rfl rp0) .plain rfl ?_
  refine EL_mw (.int .i64 (0)) rfl rfl ?_
  refine EL_nil (thn_n (E_block ?_))
  refine E_lp h (fun (s : Int) e w => ∃ (g : Gh) , Fr gI wI g w ∧ e 0 = up0 ∧ RV g.m w (x0 : List (List Int)) up0 ∧ e 1 = (.func (.func ff1) fa1 fc1) ∧ e 7 = .int .i64 (((x0).length : Int)) ∧ e 8 = .int .i64 (s)) ⟨g0, hfr, rfl, rp0, rfl, rfl, rfl⟩ (fun X19 k19 p3 => ?_)
  rintro j0 j4 o4 ⟨d2, hfr, i1, n0, j1, z1, o0⟩ h
  refine E_seq (E_region (EL_in (.bool ((decide (j0 < ((x0).length : Int))))) o0 z1 rfl rfl ?_))
  refine EL_nil (thn_n (E_seq ?_))
  rcases csome h with ⟨u0, h⟩ | ⟨u0, h⟩
  ·refine E_ct u0 rfl ?_
   refine E_skip (thn_n (E_joinC h (fun (s : Unit) e w => ∃ (g : Gh) , Fr gI wI g w ∧ e 0 = up0 ∧ RV g.m w (x0 : List (List Int)) up0 ∧ e 1 = (.func (.func ff1) fa1 fc1) ∧ e 7 = .int .i64 (((x0).length : Int)) ∧ e 8 = .int .i64 (j0)) (fun X28 k28 q3 h => ?_) ?_))
   ·refine E_block ?_
    refine E_seq (E_region (EL_mv o0 rfl ?_))
    refine EL_at (.int .i64 (j0)) rfl rfl ?_
    refine EL_nil (thn_n (E_seq (E_region (EL_mv j1 rfl ?_))))
    refine EL_mv i1 rfl ?_
    refine EL_mw (.int .i64 (j0)) rfl rfl ?_
    obtain ⟨i3, i2, h⟩ := bsome h
    refine EL_pur (v := ePtr up0 j0 1) (P_indexAddr (α := List Int) Try.underlying71 Try.sizeOf22 rfl n0 rfl i2) .plain rfl ?_
    have u3 := PT_idx n0 i2
    refine EL_do .plain rfl (D_load (g := d2) Try.isAgg22 Try.sizeOf22 rfl u3 fun z3 c4 => ?_)
    obtain ⟨j3, s3, h⟩ := bsome h
    refine EL_do .plain rfl (D_callv (g := d2) (vs := [z3]) rfl fen1 (.cons rfl .nil) (fcl1 _ _ hfr.ch _ _ _  c4 s3) fun d4 p4 q4 hs hr => ?_)
    have hfr := hfr.ext hs
    have n0 := n0.ext hs
    obtain rfl := RV_bool.1 hr
    refine EL_nil (thn_n ?_)
    rcases csome h with ⟨y0, h⟩ | ⟨y0, h⟩
    ·refine E_ct y0 rfl ?_
     refine E_seq (E_region (EL_mw (.int .i64 (j0)) rfl rfl ?_))
     refine EL_at (.int .i64 (j0)) rfl rfl ?_
     refine EL_nil (thn_n (E_ret (blk_r ?_)))
     refine thn_r ?_
     refine thn_r ?_
     refine blk_r ?_
     refine thn_r ?_
     obtain rfl := sinj h
     exact end1 rfl rfl (show _ = .int .i64 (j0) from rfl) ⟨_, hfr, rfl⟩
    ·refine E_cf y0 rfl ?_
     exact E_skip (blk_n (thn_n (q3 () _ _ ⟨d4, hfr, i1, n0, j1, z1, o0⟩ h)))
   ·rintro _ m4 u4 ⟨i4, hfr, j2, q2, s2, z2, d3⟩ h
    refine E_region (EL_in (.int .i64 ((w64 (j0 + (1 : Int))))) d3 rfl rfl rfl ?_)
    refine EL_mw (.int .i64 ((w64 (j0 + (1 : Int))))) rfl rfl ?_
    exact EL_nil (thn_n (p3 ((w64 (j0 + (1 : Int)))) _ _ ⟨i4, hfr, j2, q2, s2, z2, rfl⟩ h))
  ·refine E_cf u0 rfl ?_
   refine E_exit ?_
   refine thn_e ?_
   refine thn_e ?_
   refine blk_hit ?_
   exact thn_n (o3 () _ _ ⟨d2, hfr⟩ h)
 ·rintro _ n4 x4 ⟨z4, hfr⟩ h
  refine E_seq (E_region (EL_at (.int .i64 (-1)) rfl rfl ?_))
  refine EL_nil (thn_n (E_ret ?_))
  obtain rfl := sinj h
  exact end1 rfl rfl (show _ = .int .i64 (-1) from rfl) ⟨_, hfr, rfl⟩
/-- slices.Equal[[]string,string] -/
def f71 (x0 : List Str) (x1 : List Str) : Option (Bool) :=
 jn (σ := Unit) (fun (_ : Unit) =>
  jn (σ := Unit) (fun (_ : Unit) =>
   some (true)
   ) fun u3 =>
  lp (σ := Int) (fun z3 j0 =>
   bif (decide (j0 < ((x0).length : Int))) then
    jn (σ := Unit) (fun (_ : Unit) =>
     z3 ((w64 (j0 + (1 : Int))))
     ) fun c4 =>
    (idx x0 j0).bind fun z1 =>
    (idx x1 j0).bind fun d2 =>
    bif (!((z1).b == (d2).b)) then
     some (false)
    else
     c4 ()
   else
    u3 ()
   ) big ((0 : Int))
  ) fun k2 =>
 bif (((x0).length : Int) != ((x1).length : Int)) then
  some (false)
 else
  k2 ()
theorem en71 : Enters Try.prog 71 := enters_of Try.func71 (by kernel_rfl) rfl
theorem wk71 {gI : Gh} {wI : World} {x0 : List Str} {x1 : List Str} {up0 : Value} (rp0 : RV gI.m wI x0 up0) {up1 : Value} (rp1 : RV gI.m wI x1 up1) {r : Bool} (h : f71 x0 x1 = some r) : Fn Try.prog 71 #[up0, up1] gI wI (fun _ _ v => v = .bool (r)) := by
 unfold f71 at h
 refine fn_of_E Try.func71 rfl (Nat.le_of_ble_eq_true rfl) fun g0 hm hfr => ?_
 have rp0 : RV g0.m wI x0 up0 := hm ▸ rp0
 have rp1 : RV g0.m wI x1 up1 := hm ▸ rp1
 show E _ 26 none _ _ _ _ _
 refine E_seq (E_region (EL_at (.bool false) rfl rfl ?_))
 refine EL_nil (thn_n (E_joinC h (fun (s : Unit) e w => ∃ (g : Gh) , Fr gI wI g w ∧ e 0 = up0 ∧ RV g.m w (x0 : List Str) up0 ∧ e 1 = up1 ∧ RV g.m w (x1 : List Str) up1) (fun X2 k2 hk2 h => ?_) ?_))
 ·refine E_seq (E_region (EL_mw up0 rfl rfl ?_))
  refine EL_pur (v := .int .i64 ((x0).length : Int)) (P_len Try.underlying36 rfl rp0) .plain rfl ?_
  refine EL_mw up1 rfl rfl ?_
  refine EL_pur (v := .int .i64 ((x1).length : Int)) (P_len Try.underlying36 rfl rp1) .plain rfl ?_
  refine EL_in (.bool ((((x0).length : Int) != ((x1).length : Int)))) rfl rfl rfl rfl ?_
  refine EL_nil (thn_n ?_)
  rcases csome h with ⟨hc3, h⟩ | ⟨hc3, h⟩
  ·refine E_ct hc3 rfl ?_
   refine E_seq (E_region (EL_at (.bool false) rfl rfl ?_))
   refine EL_nil (thn_n (E_ret (thn_r ?_)))
   obtain rfl := sinj h
   exact end1 rfl rfl (show _ = .bool false from rfl) ⟨_, hfr, rfl⟩
  ·refine E_cf hc3 rfl ?_
   exact E_skip (thn_n (hk2 () _ _ ⟨g0, hfr, rfl, rp0, rfl, rp1⟩ h))
 ·rintro _ q5 w4 ⟨g4, hfr, z2, d3, i4, j4⟩ h
  refine E_joinC h (fun (s : Unit) e w => ∃ (g : Gh) , Fr gI wI g w) (fun X58 u3 m4 h => ?_) ?_
  ·refine E_seq (E_region (EL_mv z2 rfl ?_))
   refine EL_pur (v := .int .i64 ((x0).length : Int)) (P_len Try.underlying36 rfl d3) .plain rfl ?_
   refine EL_mw (.int .i64 (0)) rfl rfl ?_
   refine EL_nil (thn_n (E_block ?_))
   refine E_lp h (fun (s : Int) e w => ∃ (g : Gh) , Fr gI wI g w ∧ e 0 = up0 ∧ RV g.m w (x0 : List Str) up0 ∧ e 1 = up1 ∧ RV g.m w (x1 : List Str) up1 ∧ e 12 = .int .i64 (((x0).length : Int)) ∧ e 13 = .int .i64 (s)) ⟨g4, hfr, z2, d3, i4, j4, rfl, rfl⟩ (fun X59 z3 n4 => ?_)
   rintro j0 m5 t5 ⟨d4, hfr, i2, n0, j2, o0, i1, u0⟩ h
   refine E_seq (E_region (EL_in (.bool ((decide (j0 < ((x0).length : Int))))) u0 i1 rfl rfl ?_))
   refine EL_nil (thn_n (E_seq ?_))
   rcases csome h with ⟨j1, h⟩ | ⟨j1, h⟩
   ·refine E_ct j1 rfl ?_
    refine E_skip (thn_n (E_joinC h (fun (s : Unit) e w => ∃ (g : Gh) , Fr gI wI g w ∧ e 0 = up0 ∧ RV g.m w (x0 : List Str) up0 ∧ e 1 = up1 ∧ RV g.m w (x1 : List Str) up1 ∧ e 12 = .int .i64 (((x0).length : Int)) ∧ e 13 = .int .i64 (j0)) (fun X86 c4 o4 h => ?_) ?_))
    ·refine E_block ?_
     refine E_seq (E_region (EL_mv u0 rfl ?_))
     refine EL_at (.int .i64 (j0)) rfl rfl ?_
     refine EL_nil (thn_n (E_seq ?_))
     obtain ⟨z1, i3, h⟩ := bsome h
     have x4 := PT_idx n0 i3
     refine L_load (x := .tmp 18) Try.isAgg9 Try.sizeOf9 x4 fun u5 z4 p4 => ?_
     obtain rfl := RV_str.1 z4
     obtain ⟨d2, j3, h⟩ := bsome h
     have c5 := PT_idx o0 j3
     refine L_load (x := .tmp 22) Try.isAgg9 Try.sizeOf9 c5 fun x5 d5 q4 => ?_
     obtain rfl := RV_str.1 d5
     refine E_drawL (g := d4) (n := 9) [] [0, 1, 2, 3, 4, 5, 6, 7, 8] rfl mixed (by kernel_rfl) trivial ?_
     refine L_pur (c := up0) rfl rfl .plain (fun _ _ hd => P_move i2) ?_
     refine L_pur (c := .int .i64 (j0)) rfl rfl .plain (fun _ _ hd => P_move rfl) ?_
     refine L_pur (c := ePtr up0 j0 1) rfl rfl .plain (fun _ _ hd => P_indexAddr (α := Str) Try.underlying36 Try.sizeOf9 rfl n0 rfl i3) ?_
     refine L_ld (c := Str.v (z1)) rfl rfl .plain (fun _ _ h => h.ch) p4 rfl ?_
     refine L_pur (c := up1) rfl rfl .plain (fun _ _ hd => P_move j2) ?_
     refine L_pur (c := .int .i64 (j0)) rfl rfl .plain (fun _ _ hd => P_move rfl) ?_
     refine L_pur (c := ePtr up1 j0 1) rfl rfl .plain (fun _ _ hd => P_indexAddr (α := Str) Try.underlying36 Try.sizeOf9 rfl o0 rfl j3) ?_
     refine L_ld (c := Str.v (d2)) rfl rfl .plain (fun _ _ h => h.ch) q4 rfl ?_
     refine L_pur (c := .bool ((!((z1).b == (d2).b)))) rfl rfl .plain (fun _ _ hd => P_str rfl rfl rfl) ?_
     refine L_nil fun i5 y5 hall => ?_
     have hs := hall.1
     have hfr := hfr.ext hs
     have n0 := n0.ext hs
     have o0 := o0.ext hs
     clear hs hall
     refine EL_nil (thn_n ?_)
     rcases csome h with ⟨y0, h⟩ | ⟨y0, h⟩
     ·refine E_ct y0 rfl ?_
      refine E_seq (E_region (EL_at (.bool false) rfl rfl ?_))
      refine EL_nil (thn_n (E_ret (blk_r ?_)))
      refine thn_r ?_
      refine thn_r ?_
      refine blk_r ?_
      refine thn_r ?_
      obtain rfl := sinj h
      exact end1 rfl rfl (show _ = .bool false from rfl) ⟨_, hfr, rfl⟩
     ·refine E_cf y0 rfl ?_
      exact E_skip (blk_n (thn_n (o4 () _ _ ⟨i5, hfr, i2, n0, j2, o0, i1, u0⟩ h)))
    ·rintro _ j5 n5 ⟨u4, hfr, o3, p3, q3, s3, q2, s2⟩ h
     refine E_region (EL_in (.int .i64 ((w64 (j0 + (1 : Int))))) s2 rfl rfl rfl ?_)
     refine EL_mw (.int .i64 ((w64 (j0 + (1 : Int))))) rfl rfl ?_
     exact EL_nil (thn_n (n4 ((w64 (j0 + (1 : Int)))) _ _ ⟨u4, hfr, o3, p3, q3, s3, q2, rfl⟩ h))
   ·refine E_cf j1 rfl ?_
    refine E_exit ?_
    refine thn_e ?_
    refine thn_e ?_
    refine blk_hit ?_
    exact thn_n (m4 () _ _ ⟨d4, hfr⟩ h)
  ·rintro _ l5 o5 ⟨p5, hfr⟩ h
   refine E_seq (E_region (EL_at (.bool true) rfl rfl ?_))
   refine EL_nil (thn_n (E_ret ?_))
   obtain rfl := sinj h
   exact end1 rfl rfl (show _ = .bool true from rfl) ⟨_, hfr, rfl⟩
/-- slices.IndexFunc[[]griffe/api.FaultDamage,griffe/api.FaultDamage] -/
def f75 (x0 : List FaultDamage) (x1 : FaultDamage → Option Bool) : Option (Int) :=
 jn (σ := Unit) (fun (_ : Unit) =>
  some ((-1 : Int))
  ) fun k18 =>
 lp (σ := Int) (fun k19 j0 =>
  bif (decide (j0 < ((x0).length : Int))) then
   jn (σ := Unit) (fun (_ : Unit) =>
    k19 ((w64 (j0 + (1 : Int))))
    ) fun k28 =>
   (idx x0 j0).bind fun i3 =>
   (x1 i3).bind fun j3 =>
   bif j3 then
    some (j0)
   else
    k28 ()
  else
   k18 ()
  ) big ((0 : Int))
theorem en75 : Enters Try.prog 75 := enters_of Try.func75 (by kernel_rfl) rfl
theorem wk75 {gI : Gh} {wI : World} {x0 : List FaultDamage} {x1 : FaultDamage → Option Bool} {up0 : Value} (rp0 : RV gI.m wI x0 up0) {up1 : Value} (rp1 : FnV1 Try.prog x1 up1 gI wI) {r : Int} (h : f75 x0 x1 = some r) : Fn Try.prog 75 #[up0, up1] gI wI (fun _ _ v => v = .int .i64 (r)) := by
 unfold f75 at h
 refine fn_of_E Try.func75 rfl (Nat.le_of_ble_eq_true rfl) fun g0 hm hfr => ?_
 have rp0 : RV g0.m wI x0 up0 := hm ▸ rp0
 obtain ⟨ff1, fa1, fc1, rfl, fen1, fcl1⟩ := rp1
 show E _ 19 none _ _ _ _ _
 refine E_seq (E_region (EL_at (.int .i64 (0)) rfl rfl ?_))
 refine EL_nil (thn_n (E_joinC h (fun (s : Unit) e w => ∃ (g : Gh) , Fr gI wI g w) (fun X18 k18 o3 h => ?_) ?_))
 ·refine E_seq (E_region (EL_mw up0 rfl rfl ?_))
  refine EL_pur (v := .int .i64 ((x0).length : Int)) (P_len Try.underlying29 rfl rp0) .plain rfl ?_
  refine EL_mw (.int .i64 (0)) rfl rfl ?_
  refine EL_nil (thn_n (E_block ?_))
  refine E_lp h (fun (s : Int) e w => ∃ (g : Gh) , Fr gI wI g w ∧ e 0 = up0 ∧ RV g.m w (x0 : List FaultDamage) up0 ∧ e 1 = (.func (.func ff1) fa1 fc1) ∧ e 7 = .int .i64 (((x0).length : Int)) ∧ e 8 = .int .i64 (s)) ⟨g0, hfr, rfl, rp0, rfl, rfl, rfl⟩ (fun X19 k19 p3 => ?_)
  rintro j0 j4 o4 ⟨d2, hfr, i1, n0, j1, z1, o0⟩ h
  refine E_seq (E_region (EL_in (.bool ((decide (j0 < ((x0).length : Int))))) o0 z1 rfl rfl ?_))
  refine EL_nil (thn_n (E_seq ?_))
  rcases csome h with ⟨u0, h⟩ | ⟨u0, h⟩
  ·refine E_ct u0 rfl ?_
   refine E_skip (thn_n (E_joinC h (fun (s : Unit) e w => ∃ (g : Gh) , Fr gI wI g w ∧ e 0 = up0 ∧ RV g.m w (x0 : List FaultDamage) up0 ∧ e 1 = (.func (.func ff1) fa1 fc1) ∧ e 7 = .int .i64 (((x0).length : Int)) ∧ e 8 = .int .i64 (j0)) (fun X28 k28 q3 h => ?_) ?_))
   ·refine E_block ?_
    refine E_seq (E_region (EL_mv o0 rfl ?_))
    refine EL_at (.int .i64 (j0)) rfl rfl ?_
    refine EL_nil (thn_n (E_seq (E_region (EL_mv j1 rfl ?_))))
    refine EL_mv i1 rfl ?_
    refine EL_mw (.int .i64 (j0)) rfl rfl ?_
    obtain ⟨i3, i2, h⟩ := bsome h
    refine EL_pur (v := ePtr up0 j0 5) (P_indexAddr (α := FaultDamage) Try.underlying29 Try.sizeOf62 rfl n0 rfl i2) .plain rfl ?_
    have u3 := PT_idx n0 i2
    refine EL_do .plain rfl (D_load (g := d2) Try.isAgg62 Try.sizeOf62 rfl u3 fun z3 c4 => ?_)
    obtain ⟨j3, s3, h⟩ := bsome h
    refine EL_do .plain rfl (D_callv (g := d2) (vs := [z3]) rfl fen1 (.cons rfl .nil) (fcl1 _ _ hfr.ch _ _ _  c4 s3) fun d4 p4 q4 hs hr => ?_)
    have hfr := hfr.ext hs
    have n0 := n0.ext hs
    obtain rfl := RV_bool.1 hr
    refine EL_nil (thn_n ?_)
    rcases csome h with ⟨y0, h⟩ | ⟨y0, h⟩
    ·refine E_ct y0 rfl ?_
     refine E_seq (E_region (EL_mw (.int .i64 (j0)) rfl rfl ?_))
     refine EL_at (.int .i64 (j0)) rfl rfl ?_
     refine EL_nil (thn_n (E_ret (blk_r ?_)))
     refine thn_r ?_
     refine thn_r ?_
     refine blk_r ?_
     refine thn_r ?_
     obtain rfl := sinj h
     exact end1 rfl rfl (show _ = .int .i64 (j0) from rfl) ⟨_, hfr, rfl⟩
    ·refine E_cf y0 rfl ?_
     exact E_skip (blk_n (thn_n (q3 () _ _ ⟨d4, hfr, i1, n0, j1, z1, o0⟩ h)))
   ·rintro _ m4 u4 ⟨i4, hfr, j2, q2, s2, z2, d3⟩ h
    refine E_region (EL_in (.int .i64 ((w64 (j0 + (1 : Int))))) d3 rfl rfl rfl ?_)
    refine EL_mw (.int .i64 ((w64 (j0 + (1 : Int))))) rfl rfl ?_
    exact EL_nil (thn_n (p3 ((w64 (j0 + (1 : Int)))) _ _ ⟨i4, hfr, j2, q2, s2, z2, rfl⟩ h))
  ·refine E_cf u0 rfl ?_
   refine E_exit ?_
   refine thn_e ?_
   refine thn_e ?_
   refine blk_hit ?_
   exact thn_n (o3 () _ _ ⟨d2, hfr⟩ h)
 ·rintro _ n4 x4 ⟨z4, hfr⟩ h
  refine E_seq (E_region (EL_at (.int .i64 (-1)) rfl rfl ?_))
  refine EL_nil (thn_n (E_ret ?_))
  obtain rfl := sinj h
  exact end1 rfl rfl (show _ = .int .i64 (-1) from rfl) ⟨_, hfr, rfl⟩
/-- griffe/fault.turn -/
def f80 (x0 : Int) : Option (Int) :=
 jn (σ := Unit) (fun (_ : Unit) =>
  some ((0 : Int))
  ) fun k3 =>
 bif (x0 == (2 : Int)) then
  some ((1 : Int))
 else
  bif (x0 == (5 : Int)) then
   some ((2 : Int))
  else
   k3 ()
theorem en80 : Enters Try.prog 80 := enters_of Try.func80 (by kernel_rfl) rfl
theorem wk80 {gI : Gh} {wI : World} {x0 : Int}  {r : Int} (h : f80 x0 = some r) : Fn Try.prog 80 #[.int .i64 (x0)] gI wI (fun _ _ v => v = .int .i64 (r)) := by
 unfold f80 at h
 refine fn_of_E Try.func80 rfl (Nat.le_of_ble_eq_true rfl) fun g0 hm hfr => ?_
 show E _ 8 none _ _ _ _ _
 refine E_seq (E_region (EL_at (.int .i64 (0)) rfl rfl ?_))
 refine EL_nil (thn_n (E_joinC h (fun (s : Unit) e w => ∃ (g : Gh) , Fr gI wI g w) (fun X3 k3 hk3 h => ?_) ?_))
 ·refine E_seq (E_region (EL_mw (.int .i64 (x0)) rfl rfl ?_))
  refine EL_nil (thn_n (E_block ?_))
  refine E_seq (E_region (EL_in (.bool ((x0 == (2 : Int)))) rfl rfl rfl rfl ?_))
  refine EL_at (.bool ((x0 == (2 : Int)))) rfl rfl ?_
  refine EL_nil (thn_n ?_)
  rcases csome h with ⟨j0, h⟩ | ⟨j0, h⟩
  ·refine E_ct j0 rfl ?_
   refine E_seq (E_region (EL_at (.int .i64 (1)) rfl rfl ?_))
   refine EL_nil (thn_n (E_ret (blk_r ?_)))
   refine thn_r ?_
   obtain rfl := sinj h
   exact end1 rfl rfl (show _ = .int .i64 (1) from rfl) ⟨_, hfr, rfl⟩
  ·refine E_cf j0 rfl ?_
   refine E_seq (E_region (EL_in (.bool ((x0 == (5 : Int)))) rfl rfl rfl rfl ?_))
   refine EL_at (.bool ((x0 == (5 : Int)))) rfl rfl ?_
   refine EL_nil (thn_n ?_)
   rcases csome h with ⟨hc5, h⟩ | ⟨hc5, h⟩
   ·refine E_ct hc5 rfl ?_
    refine E_seq (E_region (EL_at (.int .i64 (2)) rfl rfl ?_))
    refine EL_nil (thn_n (E_ret (blk_r ?_)))
    refine thn_r ?_
    obtain rfl := sinj h
    exact end1 rfl rfl (show _ = .int .i64 (2) from rfl) ⟨_, hfr, rfl⟩
   ·refine E_cf hc5 rfl ?_
    exact E_skip (blk_n (thn_n (hk3 () _ _ ⟨g0, hfr⟩ h)))
 ·rintro _ n0 w6 ⟨g6, hfr⟩ h
  refine E_seq (E_region (EL_at (.int .i64 (0)) rfl rfl ?_))
  refine EL_nil (thn_n (E_ret ?_))
  obtain rfl := sinj h
  exact end1 rfl rfl (show _ = .int .i64 (0) from rfl) ⟨_, hfr, rfl⟩
/-- griffe/fault.differ$1 -/
def f83 (z0 : List Str) (z1 : List Str) (σ : Type) (cons : Cons σ (Int × Int)) (s0 : σ) : Option σ :=
 lp (σ := σ × Int) (fun k2 (u4, n0) =>
  bif (decide (n0 < ((z0).length : Int))) then
   jn (σ := σ) (fun p3 =>
    k2 (p3, (w64 (n0 + (1 : Int))))
    ) fun q5 =>
   (idx z0 n0).bind fun i1 =>
   lp (σ := σ × Nat) (fun t5 (j2, j0) =>
    bif (decide (j0 < (i1).b.length)) then
     Option.bind (α := σ × Bool) (
      (idx (i1).b ((j0 : Nat) : Int)).bind fun j1 =>
      (idx z1 n0).bind fun i4 =>
      (idx (i4).b ((j0 : Nat) : Int)).bind fun d2 =>
      bif (j1 != d2) then
       (cons j2 (n0, ((j0 : Nat) : Int))).bind fun (o3, d5) =>
       some (d5, (!o3))
      else
       some (j2, false)
      ) fun (q2, i2) =>
     bif i2 then
      some q2
     else
      t5 (q2, (j0 + (dec i1 j0).2))
    else
     q5 (j2)
    ) big (u4, 0)
  else
   some u4
  ) big (s0, (0 : Int))
theorem en83 : Enters Try.prog 83 := enters_of Try.func83 (by kernel_rfl) rfl
theorem wk83 {σ : Type} {cons : Cons σ (Int × Int)} {s0 r : σ} {gI : Gh} {wI : World} {z0 : List Str} {z1 : List Str} {pf0 : Value} (qf0 : PT gI.m wI z0 pf0) {pf1 : Value} (qf1 : PT gI.m wI z1 pf1) (h : f83 z0 z1 σ cons s0 = some r) : IterC Try.prog (RA2 (α := Int) (β := Int)) 83 #[] #[pf0, pf1] gI wI cons s0 r := by
 unfold f83 at h
 refine iter_of_E Try.func83 rfl (Nat.le_of_ble_eq_true rfl) fun l B J g0 hm hAb hRo hfr => ?_
 have qf0 : PT g0.m wI z0 pf0 := hm ▸ qf0
 have qf1 : PT g0.m wI z1 pf1 := hm ▸ qf1
 show E _ 37 none _ _ (envAt #[.func (.yield l) #[] #[], pf0, pf1]) _ _
 refine E_seq (E_region (EL_do .plain rfl (D_load (g := g0) Try.isAgg36 Try.sizeOf36 rfl qf0 fun v1 r1 => ?_)))
 refine EL_pur (v := .int .i64 ((z0).length : Int)) (P_len Try.underlying36 rfl r1) .plain rfl ?_
 refine EL_mw (.int .i64 (0)) rfl rfl ?_
 refine EL_nil (thn_n (E_block ?_))
 refine E_lp h (fun (s : σ × Int) e w => ∃ (g : Gh) , FrY gI wI B J (s.1) g w ∧ e 0 = (.func (.yield l) #[] #[]) ∧ e 2 = pf1 ∧ PT g.m w (z1 : List Str) pf1 ∧ e 7 = v1 ∧ RV g.m w (z0 : List Str) v1 ∧ e 8 = .int .i64 (((z0).length : Int)) ∧ e 9 = .int .i64 (s.2)) ⟨g0, hfr, rfl, rfl, qf1, rfl, r1, rfl, rfl⟩ (fun X2 k2 hk2 => ?_)
 rintro ⟨u4, n0⟩ d8 w3 ⟨g3, hfr, y6, z6, x4, u5, q3, x5, j4⟩ h
 refine E_seq (E_region (EL_in (.bool ((decide (n0 < ((z0).length : Int))))) j4 x5 rfl rfl ?_))
 refine EL_nil (thn_n (E_seq ?_))
 rcases csome h with ⟨y5, h⟩ | ⟨y5, h⟩
 ·refine E_ct y5 rfl ?_
  refine E_skip (thn_n (E_joinC h (fun (s : σ) e w => ∃ (g : Gh) , FrY gI wI B J (s) g w ∧ e 0 = (.func (.yield l) #[] #[]) ∧ e 2 = pf1 ∧ PT g.m w (z1 : List Str) pf1 ∧ e 7 = v1 ∧ RV g.m w (z0 : List Str) v1 ∧ e 8 = .int .i64 (((z0).length : Int)) ∧ e 9 = .int .i64 (n0)) (fun X144 q5 u6 h => ?_) ?_))
  ·refine E_block ?_
   refine E_seq (E_region (EL_mv j4 rfl ?_))
   obtain ⟨i1, i5, h⟩ := bsome h
   refine EL_pur (v := ePtr v1 n0 1) (P_indexAddr (α := Str) Try.underlying36 Try.sizeOf9 u5 q3 j4 i5) .plain rfl ?_
   have a7 := PT_idx q3 i5
   refine EL_do .plain rfl (D_load (g := g3) Try.isAgg9 Try.sizeOf9 rfl a7 fun r7 b7 => ?_)
   obtain rfl := RV_str.1 b7
   refine EL_at (.int .i64 (n0)) rfl rfl ?_
   refine EL_at (Str.v (i1)) rfl rfl ?_
   refine EL_nil (thn_n (E_seq (E_region (EL_mw (Str.v (i1)) rfl rfl ?_))))
   refine EL_do .plain rfl (D_rangeS (g := g3) (s := i1) 7015 Try.underlying9 rfl fun c7 t7 m4 hs b148 => ?_)
   have hfr := hfr.stp_ hAb hs rfl
   have x4 := x4.stp hs
   have q3 := q3.stp hs
   refine EL_nil (thn_n (E_block ?_))
   refine E_lp h (fun (s : σ × Nat) e w => ∃ (g : Gh) , FrY gI wI B J (s.1) g w ∧ e 0 = (.func (.yield l) #[] #[]) ∧ e 2 = pf1 ∧ PT g.m w (z1 : List Str) pf1 ∧ e 4 = .int .i64 (n0) ∧ e 5 = Str.v (i1) ∧ e 7 = v1 ∧ RV g.m w (z0 : List Str) v1 ∧ e 8 = .int .i64 (((z0).length : Int)) ∧ e 9 = .int .i64 (n0) ∧ e 15 = m4 ∧ SI 7015 g w (i1) (s.2) m4) ⟨c7, hfr, y6, z6, x4, rfl, rfl, u5, q3, x5, j4, rfl, b148⟩ (fun X149 t5 v6 => ?_)
   rintro ⟨j2, j0⟩ o7 u7 ⟨z4, hfr, i3, s2, o0, z2, j3, s3, u0, u3, z3, d3, c4⟩ h
   refine E_seq (E_region ?_)
   rcases csome h with ⟨n4, h⟩ | ⟨n4, h⟩
   ·refine EL_do .plain rfl (D_nextS_t (g := z4) d3 c4 n4 fun z5 v7 hs b151 => ?_)
    have hfr := hfr.stp_ hAb hs rfl
    have o0 := o0.stp hs
    have u0 := u0.stp hs
    refine EL_pur (v := .bool true) (P_extract rfl rfl) .plain rfl ?_
    refine EL_nil (thn_n (E_seq (E_cond_true (by rw [show ev _ _ = _ from rfl]; exact congrArg Value.bool rfl) ?_)))
    refine E_skip (thn_n (E_block ?_))
    refine E_seq (E_region (EL_pur (v := .int .i64 ((j0 : Nat) : Int)) (P_extract rfl rfl) .plain rfl ?_))
    refine EL_at (.int .i64 ((j0 : Nat) : Int)) rfl rfl ?_
    refine EL_nil (thn_n ?_)
    obtain ⟨⟨q2, i2⟩, hx, h⟩ := bsome h
    refine E_join (fun e w => ∃ (g : Gh) , FrY gI wI B J (q2) g w ∧ e 0 = (.func (.yield l) #[] #[]) ∧ e 2 = pf1 ∧ PT g.m w (z1 : List Str) pf1 ∧ e 4 = .int .i64 (n0) ∧ e 5 = Str.v (i1) ∧ e 7 = v1 ∧ RV g.m w (z0 : List Str) v1 ∧ e 8 = .int .i64 (((z0).length : Int)) ∧ e 9 = .int .i64 (n0) ∧ e 15 = m4 ∧ SI 7015 g w (i1) ((j0 + (dec i1 j0).2)) m4 ∧ e 35 = .bool (i2)) (fun Q' hQ => ?_) (fun p7 x7 hR => ?_)
    ·replace h := hx
     clear hx
     obtain ⟨j1, j5, h⟩ := bsome h
     refine L_load (x := .tmp 2) Try.isAgg36 Try.sizeOf36 o0 fun o4 c5 l5 => ?_
     obtain ⟨i4, p4, h⟩ := bsome h
     have d7 := PT_idx c5 p4
     refine L_load (x := .tmp 24) Try.isAgg9 Try.sizeOf9 d7 fun y7 e7 m5 => ?_
     obtain rfl := RV_str.1 e7
     obtain ⟨d2, n5, h⟩ := bsome h
     rcases csome h with ⟨y0, h⟩ | ⟨y0, h⟩
     ·refine E_drawL (g := z5) (n := 14) [] [0, 1, 2, 3, 4, 5, 6, 7, 8, 9, 10, 11, 12, 13] rfl mixed (by kernel_rfl) trivial ?_
      refine L_pur (c := Str.v (i1)) rfl rfl .plain (fun _ _ hd => P_move j3) ?_
      refine L_pur (c := .int .i64 ((j0 : Nat) : Int)) rfl rfl .plain (fun _ _ hd => P_move rfl) ?_
      refine L_pur (c := .int .u8 (UInt8.toNat (j1))) rfl rfl .plain (fun _ _ hd => P_indexS Try.underlying9 rfl rfl j5) ?_
      refine L_ld (c := o4) rfl rfl .plain (fun _ _ h => h.ch) l5 s2 ?_
      refine L_pur (c := .int .i64 (n0)) rfl rfl .plain (fun _ _ hd => P_move z2) ?_
      refine L_pur (c := ePtr o4 n0 1) rfl rfl .plain (fun _ _ hd => P_indexAddr (α := Str) Try.underlying36 Try.sizeOf9 rfl c5 rfl p4) ?_
      refine L_ld (c := Str.v (i4)) rfl rfl .plain (fun _ _ h => h.ch) m5 rfl ?_
      refine L_pur (c := .int .i64 ((j0 : Nat) : Int)) rfl rfl .plain (fun _ _ hd => P_move rfl) ?_
      refine L_pur (c := .int .u8 (UInt8.toNat (d2))) rfl rfl .plain (fun _ _ hd => P_indexS Try.underlying9 rfl rfl n5) ?_
      refine L_pur (c := .bool ((j1 != d2))) rfl rfl .plain (fun _ _ hd => P_u8 rfl rfl rfl) ?_
      refine L_pur (c := .bool ((j1 != d2))) rfl rfl .plain (fun _ _ hd => P_move rfl) ?_
      refine L_pur (c := (.func (.yield l) #[] #[])) rfl rfl (.yes2 rfl rfl y0) (fun _ _ hd => P_move i3) ?_
      refine L_pur (c := .int .i64 (n0)) rfl rfl (.yes2 rfl rfl y0) (fun _ _ hd => P_move z2) ?_
      refine L_pur (c := .int .i64 ((j0 : Nat) : Int)) rfl rfl (.yes2 rfl rfl y0) (fun _ _ hd => P_move rfl) ?_
      refine L_nil fun g7 z7 hall => ?_
      have hs := hall.1
      have hfr := hfr.ext_ hAb hs
      have o0 := o0.ext hs
      have u0 := u0.ext hs
      have b151 := b151.ext hs
      clear hs hall
      obtain ⟨i7, x6, h⟩ := bsome h
      obtain ⟨o3, d5⟩ := i7
      refine EL_do (.yes2 rfl rfl y0) rfl (D_yield (g := g7) (x := (n0, ((j0 : Nat) : Int))) rfl (.cons rfl (.cons rfl .nil)) hRo hfr x6 ⟨_, _, rfl, (RV_int.2 rfl), (RV_int.2 rfl)⟩ fun j7 a8 hs hfrY => ?_)
      have o0 := o0.stp hs
      have u0 := u0.stp hs
      have b151 := b151.stp hs rfl
      have hfr := hfrY
      clear hfrY
      refine EL_pur (v := .bool (!o3)) (P_not rfl) (.yes2 rfl rfl y0) rfl ?_
      refine EL_pur (v := .bool (!o3)) (P_pick (b := (j1 != d2)) rfl (pick_t y0 rfl)) .plain rfl ?_
      refine EL_nil ?_
      obtain ⟨rfl, rfl⟩ := pairs2 h
      exact hQ _ _ ⟨j7, hfr, i3, s2, o0, z2, j3, s3, u0, u3, z3, d3, b151, rfl⟩
     ·refine E_drawL (g := z5) (n := 14) [] [0, 1, 2, 3, 4, 5, 6, 7, 8, 9, 10, 11, 12, 13] rfl mixed (by kernel_rfl) trivial ?_
      refine L_pur (c := Str.v (i1)) rfl rfl .plain (fun _ _ hd => P_move j3) ?_
      refine L_pur (c := .int .i64 ((j0 : Nat) : Int)) rfl rfl .plain (fun _ _ hd => P_move rfl) ?_
      refine L_pur (c := .int .u8 (UInt8.toNat (j1))) rfl rfl .plain (fun _ _ hd => P_indexS Try.underlying9 rfl rfl j5) ?_
      refine L_ld (c := o4) rfl rfl .plain (fun _ _ h => h.ch) l5 s2 ?_
      refine L_pur (c := .int .i64 (n0)) rfl rfl .plain (fun _ _ hd => P_move z2) ?_
      refine L_pur (c := ePtr o4 n0 1) rfl rfl .plain (fun _ _ hd => P_indexAddr (α := Str) Try.underlying36 Try.sizeOf9 rfl c5 rfl p4) ?_
      refine L_ld (c := Str.v (i4)) rfl rfl .plain (fun _ _ h => h.ch) m5 rfl ?_
      refine L_pur (c := .int .i64 ((j0 : Nat) : Int)) rfl rfl .plain (fun _ _ hd => P_move rfl) ?_
      refine L_pur (c := .int .u8 (UInt8.toNat (d2))) rfl rfl .plain (fun _ _ hd => P_indexS Try.underlying9 rfl rfl n5) ?_
      refine L_pur (c := .bool ((j1 != d2))) rfl rfl .plain (fun _ _ hd => P_u8 rfl rfl rfl) ?_
      refine L_pur (c := .bool ((j1 != d2))) rfl rfl .plain (fun _ _ hd => P_move rfl) ?_
      refine L_skip rfl (.no2 rfl rfl y0 rfl) ?_
      refine L_skip rfl (.no2 rfl rfl y0 rfl) ?_
      refine L_skip rfl (.no2 rfl rfl y0 rfl) ?_
      refine L_nil fun l7 b8 hall => ?_
      have hs := hall.1
      have hfr := hfr.ext_ hAb hs
      have o0 := o0.ext hs
      have u0 := u0.ext hs
      have b151 := b151.ext hs
      clear hs hall
      refine EL_skip (.no2 rfl rfl y0 rfl) rfl ?_
      refine EL_skip (.no2 rfl rfl y0 rfl) rfl ?_
      refine EL_pur (v := .bool false) (P_pick (b := (j1 != d2)) rfl (pick_f y0 rfl)) .plain rfl ?_
      refine EL_nil ?_
      obtain ⟨rfl, rfl⟩ := pairs2 h
      exact hQ _ _ ⟨l7, hfr, i3, s2, o0, z2, j3, s3, u0, u3, z3, d3, b151, rfl⟩
    ·clear hx
     obtain ⟨m7, hfr, a6, b6, c6, d6, e6, i6, j6, k6, l6, o5, p5, d4⟩ := hR
     rcases csome h with ⟨q4, h⟩ | ⟨q4, h⟩
     ·refine E_cond_true (Eq.trans (show ev _ _ = .bool (i2) from d4) (congrArg Value.bool q4)) ?_
      refine E_ret (blk_r ?_)
      refine thn_r ?_
      refine blk_r ?_
      refine blk_r ?_
      refine thn_r ?_
      refine thn_r ?_
      refine blk_r ?_
      obtain rfl := sinj h
      exact end0 rfl rfl (FrY.done hfr)
     ·refine E_cond_false (Eq.trans (show ev _ _ = .bool (i2) from d4) (congrArg Value.bool q4)) ?_
      exact E_skip (blk_n (thn_n (v6 (q2, (j0 + (dec i1 j0).2)) _ _ ⟨m7, hfr, a6, b6, c6, d6, e6, i6, j6, k6, l6, o5, p5⟩ h)))
   ·refine EL_do .plain rfl (D_nextS_f (g := z4) d3 c4 n4 ?_)
    refine EL_pur (v := .bool false) (P_extract rfl rfl) .plain rfl ?_
    refine EL_nil (thn_n (E_seq (E_cond_false (by rw [show ev _ _ = _ from rfl]; exact congrArg Value.bool rfl) ?_)))
    refine E_exit ?_
    refine thn_e ?_
    refine thn_e ?_
    refine blk_hit ?_
    exact blk_n (thn_n (u6 (j2) _ _ ⟨z4, hfr, i3, s2, o0, s3, u0, u3, z3⟩ h))
  ·rintro p3 q7 c8 ⟨n7, hfr, m6, n6, o6, p6, q6, r6, t6⟩ h
   refine E_region (EL_in (.int .i64 ((w64 (n0 + (1 : Int))))) t6 rfl rfl rfl ?_)
   refine EL_mw (.int .i64 ((w64 (n0 + (1 : Int))))) rfl rfl ?_
   exact EL_nil (thn_n (hk2 (p3, (w64 (n0 + (1 : Int)))) _ _ ⟨n7, hfr, m6, n6, o6, p6, q6, r6, rfl⟩ h))
 ·refine E_cf y5 rfl ?_
  refine E_exit ?_
  refine thn_e ?_
  refine thn_e ?_
  refine blk_hit ?_
  obtain rfl := sinj h
  exact end0n rfl rfl (FrY.done hfr)
/-- griffe/grifferef01.Like -/
def f84 (x0 : Design) (x1 : Design) : Option (Bool) :=
 Option.bind (α := Bool) (
  bif ((x0).Hooks == (x1).Hooks) then
   some (((((x0).Rows).length : Int) == (((x1).Rows).length : Int)))
  else
   some (false)
  ) fun n0 =>
 some (n0)
theorem en84 : Enters Try.prog 84 := enters_of Try.func84 (by kernel_rfl) rfl
theorem wk84 {gI : Gh} {wI : World} {x0 : Design} {x1 : Design} {up0 : Value} (rp0 : RV gI.m wI x0 up0) {up1 : Value} (rp1 : RV gI.m wI x1 up1) {r : Bool} (h : f84 x0 x1 = some r) : Fn Try.prog 84 #[up0, up1] gI wI (fun _ _ v => v = .bool (r)) := by
 unfold f84 at h
 refine fn_of_E Try.func84 rfl (Nat.le_of_ble_eq_true rfl) fun g0 hm hfr => ?_
 have rp0 : RV g0.m wI x0 up0 := hm ▸ rp0
 have rp1 : RV g0.m wI x1 up1 := hm ▸ rp1
 show E _ 19 none _ _ _ _ _
 refine E_seq (E_region (EL_do .plain rfl (D_box (g := g0) rfl rp0 fun g1 w1 p1 hs q1 => ?_)))
 have hfr := hfr.ext hs
 have rp1 := rp1.ext hs
 refine EL_do .plain rfl (D_box (g := g1) rfl rp1 fun g2 w2 p2 hs q2 => ?_)
 have hfr := hfr.ext hs
 have q1 := q1.ext hs
 refine EL_at (.bool false) rfl rfl ?_
 refine EL_nil (thn_n ?_)
 obtain ⟨n0, hx, h⟩ := bsome h
 refine E_join (fun e w => ∃ (g : Gh) , Fr gI wI g w ∧ e 4 = .bool (n0)) (fun Q' hQ => ?_) (fun s2 z2 hR => ?_)
 ·replace h := hx
  clear hx
  refine E_region (EL_pur (v := fPtr p1 0) (P_fieldAddr at_26_0 rfl (PT.ptr q1)) .plain rfl ?_)
  have u0 := PT_field (part_Design_0).1 q1
  refine EL_do .plain rfl (D_load (g := g2) Try.isAgg3 Try.sizeOf3 rfl u0 fun d3 y0 => ?_)
  obtain rfl := RV_int.1 y0
  refine EL_pur (v := fPtr p2 0) (P_fieldAddr at_26_0 rfl (PT.ptr q2)) .plain rfl ?_
  have i1 := PT_field (part_Design_0).1 q2
  refine EL_do .plain rfl (D_load (g := g2) Try.isAgg3 Try.sizeOf3 rfl i1 fun i3 j1 => ?_)
  obtain rfl := RV_int.1 j1
  refine EL_in (.bool (((x0).Hooks == (x1).Hooks))) rfl rfl rfl rfl ?_
  refine EL_mw (.bool (((x0).Hooks == (x1).Hooks))) rfl rfl ?_
  rcases csome h with ⟨j0, h⟩ | ⟨j0, h⟩
  ·refine EL_pur (v := fPtr p1 1) (P_fieldAddr at_26_1 rfl (PT.ptr q1)) (.yes2 rfl rfl j0) rfl ?_
   have z1 := PT_field (part_Design_1).1 q1
   refine EL_do (.yes2 rfl rfl j0) rfl (D_load (g := g2) Try.isAgg22 Try.sizeOf22 rfl z1 fun j3 d2 => ?_)
   refine EL_pur (v := .int .i64 (((x0).Rows).length : Int)) (P_len Try.underlying22 rfl d2) (.yes2 rfl rfl j0) rfl ?_
   refine EL_pur (v := fPtr p2 1) (P_fieldAddr at_26_1 rfl (PT.ptr q2)) (.yes2 rfl rfl j0) rfl ?_
   have i2 := PT_field (part_Design_1).1 q2
   refine EL_do (.yes2 rfl rfl j0) rfl (D_load (g := g2) Try.isAgg22 Try.sizeOf22 rfl i2 fun o3 j2 => ?_)
   refine EL_pur (v := .int .i64 (((x1).Rows).length : Int)) (P_len Try.underlying22 rfl j2) (.yes2 rfl rfl j0) rfl ?_
   refine EL_pur (v := .bool (((((x0).Rows).length : Int) == (((x1).Rows).length : Int)))) (P_int rfl rfl rfl) (.yes2 rfl rfl j0) rfl ?_
   refine EL_pur (v := .bool (((((x0).Rows).length : Int) == (((x1).Rows).length : Int)))) (P_pick (b := ((x0).Hooks == (x1).Hooks)) rfl (pick_t j0 rfl)) .plain rfl ?_
   refine EL_at (.bool (((((x0).Rows).length : Int) == (((x1).Rows).length : Int)))) rfl rfl ?_
   refine EL_nil ?_
   obtain rfl := sinj h
   exact hQ _ _ ⟨g2, hfr, rfl⟩
  ·refine EL_skip (.no2 rfl rfl j0 rfl) rfl ?_
   refine EL_skip (.no2 rfl rfl j0 rfl) rfl ?_
   refine EL_skip (.no2 rfl rfl j0 rfl) rfl ?_
   refine EL_skip (.no2 rfl rfl j0 rfl) rfl ?_
   refine EL_skip (.no2 rfl rfl j0 rfl) rfl ?_
   refine EL_skip (.no2 rfl rfl j0 rfl) rfl ?_
   refine EL_skip (.no2 rfl rfl j0 rfl) rfl ?_
   refine EL_pur (v := .bool false) (P_pick (b := ((x0).Hooks == (x1).Hooks)) rfl (pick_f j0 rfl)) .plain rfl ?_
   refine EL_at (.bool false) rfl rfl ?_
   refine EL_nil ?_
   obtain rfl := sinj h
   exact hQ _ _ ⟨g2, hfr, rfl⟩
 ·clear hx
  obtain ⟨p3, hfr, o0⟩ := hR
  refine E_ret ?_
  obtain rfl := sinj h
  exact end1 rfl rfl (show _ = .bool (n0) from o0) ⟨_, hfr, rfl⟩
/-- griffe/grifferef01.Reverse -/
def f86 (x0 : List Bool) : Option ((List Bool)) :=
 Option.bind (α := (List Bool)) (
  lp (σ := (List Bool) × Int) (fun p4 (o0, j0) =>
   jn (σ := Unit) (fun (_ : Unit) =>
    Option.bind (α := (List Bool)) (
     (idx x0 j0).bind fun i2 =>
     (apnd 1 o0 (([i2] : List Bool))).bind fun q4 =>
     some (q4)
     ) fun u0 =>
    p4 (u0, (w64 (j0 - (1 : Int))))
    ) fun u4 =>
   bif (decide (j0 ≥ (0 : Int))) then
    u4 ()
   else
    some (o0)
   ) big (([] : List Bool), (w64 (((x0).length : Int) - (1 : Int))))
  ) fun y0 =>
 some (y0)
theorem en86 : Enters Try.prog 86 := enters_of Try.func86 (by kernel_rfl) rfl
/-- griffe/fault.within$1 -/
def f88 (x0 : Int) (z0 : Int) (z1 : Int) : Option (Bool) :=
 Option.bind (α := Bool) (
  bif (decide (x0 < z0)) then
   some (true)
  else
   some ((decide (x0 > z1)))
  ) fun j0 =>
 some (j0)
theorem en88 : Enters Try.prog 88 := enters_of Try.func88 (by kernel_rfl) rfl
theorem wk88 {gI : Gh} {wI : World} {x0 : Int} {z0 : Int} {z1 : Int} {pf0 : Value} (qf0 : PT gI.m wI z0 pf0) {pf1 : Value} (qf1 : PT gI.m wI z1 pf1) {r : Bool} (h : f88 x0 z0 z1 = some r) : Fn Try.prog 88 #[.int .i64 (x0), pf0, pf1] gI wI (fun _ _ v => v = .bool (r)) := by
 unfold f88 at h
 refine fn_of_E Try.func88 rfl (Nat.le_of_ble_eq_true rfl) fun g0 hm hfr => ?_
 have qf0 : PT g0.m wI z0 pf0 := hm ▸ qf0
 have qf1 : PT g0.m wI z1 pf1 := hm ▸ qf1
 show E _ 13 none _ _ _ _ _
 refine E_seq (E_region (EL_at (.bool false) rfl rfl ?_))
 refine EL_nil (thn_n ?_)
 obtain ⟨j0, hx, h⟩ := bsome h
 refine E_join (fun e w => ∃ (g : Gh) , Fr gI wI g w ∧ e 4 = .bool (j0)) (fun Q' hQ => ?_) (fun o0 w7 hR => ?_)
 ·replace h := hx
  clear hx
  refine E_region (EL_mw (.int .i64 (x0)) rfl rfl ?_)
  refine EL_do .plain rfl (D_load (g := g0) Try.isAgg3 Try.sizeOf3 rfl qf0 fun v4 r4 => ?_)
  obtain rfl := RV_int.1 r4
  refine EL_in (.bool ((decide (x0 < z0)))) rfl rfl rfl rfl ?_
  refine EL_mw (.bool ((decide (x0 < z0)))) rfl rfl ?_
  rcases csome h with ⟨hc5, h⟩ | ⟨hc5, h⟩
  ·refine EL_skip (.no2 rfl rfl hc5 rfl) rfl ?_
   refine EL_skip (.no2 rfl rfl hc5 rfl) rfl ?_
   refine EL_skip (.no2 rfl rfl hc5 rfl) rfl ?_
   refine EL_pur (v := .bool true) (P_pick (b := (decide (x0 < z0))) rfl (pick_t hc5 rfl)) .plain rfl ?_
   refine EL_at (.bool true) rfl rfl ?_
   refine EL_nil ?_
   obtain rfl := sinj h
   exact hQ _ _ ⟨g0, hfr, rfl⟩
  ·refine EL_pur (v := .int .i64 (x0)) (P_move rfl) (.yes2 rfl rfl hc5) rfl ?_
   refine EL_do (.yes2 rfl rfl hc5) rfl (D_load (g := g0) Try.isAgg3 Try.sizeOf3 rfl qf1 fun v6 r6 => ?_)
   obtain rfl := RV_int.1 r6
   refine EL_pur (v := .bool ((decide (x0 > z1)))) (P_int rfl rfl rfl) (.yes2 rfl rfl hc5) rfl ?_
   refine EL_pur (v := .bool ((decide (x0 > z1)))) (P_pick (b := (decide (x0 < z0))) rfl (pick_f hc5 rfl)) .plain rfl ?_
   refine EL_at (.bool ((decide (x0 > z1)))) rfl rfl ?_
   refine EL_nil ?_
   obtain rfl := sinj h
   exact hQ _ _ ⟨g0, hfr, rfl⟩
 ·clear hx
  obtain ⟨g7, hfr, n0⟩ := hR
  refine E_ret ?_
  obtain rfl := sinj h
  exact end1 rfl rfl (show _ = .bool (j0) from n0) ⟨_, hfr, rfl⟩
/-- slices.IndexFunc[[]griffe/api.FaultSight,griffe/api.FaultSight] -/
def f89 (x0 : List FaultSight) (x1 : FaultSight → Option Bool) : Option (Int) :=
 jn (σ := Unit) (fun (_ : Unit) =>
  some ((-1 : Int))
  ) fun k18 =>
 lp (σ := Int) (fun k19 j0 =>
  bif (decide (j0 < ((x0).length : Int))) then
   jn (σ := Unit) (fun (_ : Unit) =>
    k19 ((w64 (j0 + (1 : Int))))
    ) fun k28 =>
   (idx x0 j0).bind fun i3 =>
   (x1 i3).bind fun j3 =>
   bif j3 then
    some (j0)
   else
    k28 ()
  else
   k18 ()
  ) big ((0 : Int))
theorem en89 : Enters Try.prog 89 := enters_of Try.func89 (by kernel_rfl) rfl
theorem wk89 {gI : Gh} {wI : World} {x0 : List FaultSight} {x1 : FaultSight → Option Bool} {up0 : Value} (rp0 : RV gI.m wI x0 up0) {up1 : Value} (rp1 : FnV1 Try.prog x1 up1 gI wI) {r : Int} (h : f89 x0 x1 = some r) : Fn Try.prog 89 #[up0, up1] gI wI (fun _ _ v => v = .int .i64 (r)) := by
 unfold f89 at h
 refine fn_of_E Try.func89 rfl (Nat.le_of_ble_eq_true rfl) fun g0 hm hfr => ?_
 have rp0 : RV g0.m wI x0 up0 := hm ▸ rp0
 obtain ⟨ff1, fa1, fc1, rfl, fen1, fcl1⟩ := rp1
 show E _ 19 none _ _ _ _ _
 refine E_seq (E_region (EL_at (.int .i64 (0)) rfl rfl ?_))
 refine EL_nil (thn_n (E_joinC h (fun (s : Unit) e w => ∃ (g : Gh) , Fr gI wI g w) (fun X18 k18 o3 h => ?_) ?_))
 ·refine E_seq (E_region (EL_mw up0 rfl rfl ?_))
  refine EL_pur (v := .int .i64 ((x0).length : Int)) (P_len Try.underlying39 rfl rp0) .plain rfl ?_
  refine EL_mw (.int .i64 (0)) rfl rfl ?_
  refine EL_nil (thn_n (E_block ?_))
  refine E_lp h (fun (s : Int) e w => ∃ (g : Gh) , Fr gI wI g w ∧ e 0 = up0 ∧ RV g.m w (x0 : List FaultSight) up0 ∧ e 1 = (.func (.func ff1) fa1 fc1) ∧ e 7 = .int .i64 (((x0).length : Int)) ∧ e 8 = .int .i64 (s)) ⟨g0, hfr, rfl, rp0, rfl, rfl, rfl⟩ (fun X19 k19 p3 => ?_)
  rintro j0 j4 o4 ⟨d2, hfr, i1, n0, j1, z1, o0⟩ h
  refine E_seq (E_region (EL_in (.bool ((decide (j0 < ((x0).length : Int))))) o0 z1 rfl rfl ?_))
  refine EL_nil (thn_n (E_seq ?_))
  rcases csome h with ⟨u0, h⟩ | ⟨u0, h⟩
  ·refine E_ct u0 rfl ?_
   refine E_skip (thn_n (E_joinC h (fun (s : Unit) e w => ∃ (g : Gh) , Fr gI wI g w ∧ e 0 = up0 ∧ RV g.m w (x0 : List FaultSight) up0 ∧ e 1 = (.func (.func ff1) fa1 fc1) ∧ e 7 = .int .i64 (((x0).length : Int)) ∧ e 8 = .int .i64 (j0)) (fun X28 k28 q3 h => ?_) ?_))
   ·refine E_block ?_
    refine E_seq (E_region (EL_mv o0 rfl ?_))
    refine EL_at (.int .i64 (j0)) rfl rfl ?_
    refine EL_nil (thn_n (E_seq (E_region (EL_mv j1 rfl ?_))))
    refine EL_mv i1 rfl ?_
    refine EL_mw (.int .i64 (j0)) rfl rfl ?_
    obtain ⟨i3, i2, h⟩ := bsome h
    refine EL_pur (v := ePtr up0 j0 3) (P_indexAddr (α := FaultSight) Try.underlying39 Try.sizeOf56 rfl n0 rfl i2) .plain rfl ?_
    have u3 := PT_idx n0 i2
    refine EL_do .plain rfl (D_load (g := d2) Try.isAgg56 Try.sizeOf56 rfl u3 fun z3 c4 => ?_)
    obtain ⟨j3, s3, h⟩ := bsome h
    refine EL_do .plain rfl (D_callv (g := d2) (vs := [z3]) rfl fen1 (.cons rfl .nil) (fcl1 _ _ hfr.ch _ _ _  c4 s3) fun d4 p4 q4 hs hr => ?_)
    have hfr := hfr.ext hs
    have n0 := n0.ext hs
    obtain rfl := RV_bool.1 hr
    refine EL_nil (thn_n ?_)
    rcases csome h with ⟨y0, h⟩ | ⟨y0, h⟩
    ·refine E_ct y0 rfl ?_
     refine E_seq (E_region (EL_mw (.int .i64 (j0)) rfl rfl ?_))
     refine EL_at (.int .i64 (j0)) rfl rfl ?_
     refine EL_nil (thn_n (E_ret (blk_r ?_)))
     refine thn_r ?_
     refine thn_r ?_
     refine blk_r ?_
     refine thn_r ?_
     obtain rfl := sinj h
     exact end1 rfl rfl (show _ = .int .i64 (j0) from rfl) ⟨_, hfr, rfl⟩
    ·refine E_cf y0 rfl ?_
     exact E_skip (blk_n (thn_n (q3 () _ _ ⟨d4, hfr, i1, n0, j1, z1, o0⟩ h)))
   ·rintro _ m4 u4 ⟨i4, hfr, j2, q2, s2, z2, d3⟩ h
    refine E_region (EL_in (.int .i64 ((w64 (j0 + (1 : Int))))) d3 rfl rfl rfl ?_)
    refine EL_mw (.int .i64 ((w64 (j0 + (1 : Int))))) rfl rfl ?_
    exact EL_nil (thn_n (p3 ((w64 (j0 + (1 : Int)))) _ _ ⟨i4, hfr, j2, q2, s2, z2, rfl⟩ h))
  ·refine E_cf u0 rfl ?_
   refine E_exit ?_
   refine thn_e ?_
   refine thn_e ?_
   refine blk_hit ?_
   exact thn_n (o3 () _ _ ⟨d2, hfr⟩ h)
 ·rintro _ n4 x4 ⟨z4, hfr⟩ h
  refine E_seq (E_region (EL_at (.int .i64 (-1)) rfl rfl ?_))
  refine EL_nil (thn_n (E_ret ?_))
  obtain rfl := sinj h
  exact end1 rfl rfl (show _ = .int .i64 (-1) from rfl) ⟨_, hfr, rfl⟩
end Go.Proofs.Ytpiaipiehjcflaa
