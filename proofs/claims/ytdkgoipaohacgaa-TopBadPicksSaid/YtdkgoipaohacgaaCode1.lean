import Derived.Test.YtdkgoipaohacgaaTypes
set_option maxRecDepth 8000
set_option maxHeartbeats 4000000
namespace Go.Proofs.Ytdkgoipaohacgaa
open Go.RowKit
theorem info_3 : (Try.prog.info? 3).map (fun i => (i.zero, i.size, i.bytes)) = some (some (.int .i64 0), 1, 8) := by kernel_rfl
theorem info_37 : (Try.prog.info? 37).map (fun i => (i.zero, i.size, i.bytes)) = some (some (.agg #[.int .i64 0, .int .i64 0, .int .i64 0, .int .i64 0, .bool false]), 5, 40) := by kernel_rfl
theorem info_5 : (Try.prog.info? 5).map (fun i => (i.zero, i.size, i.bytes)) = some (some (.int .u8 0), 1, 1) := by kernel_rfl
theorem mixed : Try.prog.follows .mixedOrders = true := by kernel_rfl
theorem lay_30 : layoutOf Try.prog 30 = some ([.int .i64 0, .slice none 0 0], [(0, 1), (1, 1)]) := by kernel_rfl
theorem endm_c {P : Program} {e : Env} {ds : List Deferred} {w : World} {fn : Func} {R : Value → World → Prop} {t0 : Tmp} {v0 : Value} {y0 : TypeId} {a0 : Addr} (hres : fn.results = #[.cell t0 y0]) (hd : ds = []) (h0 : e t0 = .pointer (some a0)) (l0 : (loadVar y0 a0).run P w = .ok v0 w) (h : R v0 w) : atEnd P fn R .ret e ds w :=
 ⟨hd, fun tmps ht => ⟨_, by simp [results, hres, ht, asAddr, h0, l0], h⟩⟩
theorem capf_0_1 {e : Env} {f : FuncId} {o0 : Operand} {b0 : Value} (hb0 : ev e o0 = b0) : (Value.func (.func f) ((#[] : Array Operand).map (ev e)) ((#[o0] : Array Operand).map (ev e))) = .func (.func f) #[] #[b0] := by simp [hb0]
theorem lay_28 : layoutOf Try.prog 28 = some ([.int .i64 0, .slice none 0 0], [(0, 1), (1, 1)]) := by kernel_rfl
theorem lay_32 : layoutOf Try.prog 32 = some ([.int .i64 0, .slice none 0 0, .int .i64 0, .slice none 0 0], [(0, 2), (2, 2)]) := by kernel_rfl
theorem lay_51 : layoutOf Try.prog 51 = some ([.int .i64 0, .int .i64 0, .bool false], [(0, 1), (1, 1), (2, 1)]) := by kernel_rfl
theorem capf_0_2 {e : Env} {f : FuncId} {o0 : Operand} {u0 : Operand} {b0 : Value} {b1 : Value} (hb0 : ev e o0 = b0) (hb1 : ev e u0 = b1) : (Value.func (.func f) ((#[] : Array Operand).map (ev e)) ((#[o0, u0] : Array Operand).map (ev e))) = .func (.func f) #[] #[b0, b1] := by simp [hb0, hb1]
theorem info_135 : (Try.prog.info? 135).map (fun i => (i.zero, i.size, i.bytes)) = some (some (.agg #[.int .i64 0, .int .i64 0, .int .i64 0]), 3, 24) := by kernel_rfl
theorem lay_135 : layoutOf Try.prog 135 = some ([.int .i64 0, .int .i64 0, .int .i64 0], [(0, 1), (1, 1), (2, 1)]) := by kernel_rfl
theorem lay_137 : layoutOf Try.prog 137 = some ([.int .i64 0, .int .i64 0], [(0, 1), (1, 1)]) := by kernel_rfl
theorem capf_1_0 {e : Env} {f : FuncId} {j1 : Operand} {a0 : Value} (ha0 : ev e j1 = a0) : (Value.func (.func f) ((#[j1] : Array Operand).map (ev e)) ((#[] : Array Operand).map (ev e))) = .func (.func f) #[a0] #[] := by simp [ha0]
theorem lay_37 : layoutOf Try.prog 37 = some ([.int .i64 0, .int .i64 0, .int .i64 0, .int .i64 0, .bool false], [(0, 1), (1, 1), (2, 1), (3, 1), (4, 1)]) := by kernel_rfl
theorem layA_257 : ((Try.prog.info? 257).bind (·.zero)).map (·.cells.toList) = some [.int .i64 0, .int .i64 0] := by kernel_rfl
theorem szA_35 : (Try.prog.info? 35).map (·.size) = some 1 := by kernel_rfl
theorem layA_262 : ((Try.prog.info? 262).bind (·.zero)).map (·.cells.toList) = some [.slice none 0 0, .slice none 0 0] := by kernel_rfl
theorem szA_141 : (Try.prog.info? 141).map (·.size) = some 1 := by kernel_rfl
theorem plain_Span : Plain Span := fun _ m' _ w' x _ h => (plain_two plain_int plain_int) _ m' _ w' _ _ h
theorem key_3 : KeyLaw Try.prog 3 (Value.int .i64) := keyLaw_int Try.underlying3
theorem lay_104 : layoutOf Try.prog 104 = some ([.int .i64 0, .slice none 0 0, .int .i64 0, .slice none 0 0], [(0, 4)]) := by kernel_rfl
theorem fl_37 : Try.prog.fieldsOf 37 = #[{ name := "Kind", type := 35, offset := 0, embedded := false, tag := "", pkgPath := "", byteOffset := 0 }, { name := "Pick", type := 3, offset := 1, embedded := false, tag := "", pkgPath := "", byteOffset := 8 }, { name := "Hook", type := 3, offset := 2, embedded := false, tag := "", pkgPath := "", byteOffset := 16 }, { name := "Warp", type := 3, offset := 3, embedded := false, tag := "", pkgPath := "", byteOffset := 24 }, { name := "Up", type := 4, offset := 4, embedded := false, tag := "", pkgPath := "", byteOffset := 32 }] := by kernel_rfl
theorem seq_37 : SEq (α := FaultDamage) Try.prog 37 := by
 intro d x y w a b m wx m2 wy hx hy
 obtain ⟨_, ⟨_, _, rfl, rfl, ⟨_, _, rfl, rfl, ⟨_, _, rfl, rfl, ⟨_, _, rfl, rfl, rfl⟩⟩⟩⟩, rfl⟩ := hx
 obtain ⟨_, ⟨_, _, rfl, rfl, ⟨_, _, rfl, rfl, ⟨_, _, rfl, rfl, ⟨_, _, rfl, rfl, rfl⟩⟩⟩⟩, rfl⟩ := hy
 refine (run_equalIn_struct w (d + 1) 37 _ _ (by kernel_rfl) (by kernel_rfl)).trans ?_
 rw [fl_37]
 obtain ⟨x0, x1, x2, x3, x4⟩ := x
 obtain ⟨y0, y1, y2, y3, y4⟩ := y
 show (Op.eqFields (d + 1) #[.int .i64 (x0), .int .i64 (x1), .int .i64 (x2), .int .i64 (x3), .bool (x4)] #[.int .i64 (y0), .int .i64 (y1), .int .i64 (y2), .int .i64 (y3), .bool (y4)] _).run _ _ = _
 have x0p : (part 35 #[.int .i64 (x0), .int .i64 (x1), .int .i64 (x2), .int .i64 (x3), .bool (x4)] 0).run Try.prog w = .ok (.int .i64 (x0)) w := part_one Try.isAgg35 rfl
 have x1p : (part 3 #[.int .i64 (x0), .int .i64 (x1), .int .i64 (x2), .int .i64 (x3), .bool (x4)] 1).run Try.prog w = .ok (.int .i64 (x1)) w := part_one Try.isAgg3 rfl
 have x2p : (part 3 #[.int .i64 (x0), .int .i64 (x1), .int .i64 (x2), .int .i64 (x3), .bool (x4)] 2).run Try.prog w = .ok (.int .i64 (x2)) w := part_one Try.isAgg3 rfl
 have x3p : (part 3 #[.int .i64 (x0), .int .i64 (x1), .int .i64 (x2), .int .i64 (x3), .bool (x4)] 3).run Try.prog w = .ok (.int .i64 (x3)) w := part_one Try.isAgg3 rfl
 have x4p : (part 4 #[.int .i64 (x0), .int .i64 (x1), .int .i64 (x2), .int .i64 (x3), .bool (x4)] 4).run Try.prog w = .ok (.bool (x4)) w := part_one Try.isAgg4 rfl
 have y0p : (part 35 #[.int .i64 (y0), .int .i64 (y1), .int .i64 (y2), .int .i64 (y3), .bool (y4)] 0).run Try.prog w = .ok (.int .i64 (y0)) w := part_one Try.isAgg35 rfl
 have y1p : (part 3 #[.int .i64 (y0), .int .i64 (y1), .int .i64 (y2), .int .i64 (y3), .bool (y4)] 1).run Try.prog w = .ok (.int .i64 (y1)) w := part_one Try.isAgg3 rfl
 have y2p : (part 3 #[.int .i64 (y0), .int .i64 (y1), .int .i64 (y2), .int .i64 (y3), .bool (y4)] 2).run Try.prog w = .ok (.int .i64 (y2)) w := part_one Try.isAgg3 rfl
 have y3p : (part 3 #[.int .i64 (y0), .int .i64 (y1), .int .i64 (y2), .int .i64 (y3), .bool (y4)] 3).run Try.prog w = .ok (.int .i64 (y3)) w := part_one Try.isAgg3 rfl
 have y4p : (part 4 #[.int .i64 (y0), .int .i64 (y1), .int .i64 (y2), .int .i64 (y3), .bool (y4)] 4).run Try.prog w = .ok (.bool (y4)) w := part_one Try.isAgg4 rfl
 simp only [Op.eqFields, Sem.run_bind, Sem.run_ite, Sem.run_pure, x0p, x1p, x2p, x3p, x4p, y0p, y1p, y2p, y3p, y4p, Result.andThen_ok, run_equalIn_int _ _ _ _ _ _ _ Try.underlying35, run_equalIn_int _ _ _ _ _ _ _ Try.underlying3, run_equalIn_bool _ _ _ _ _ Try.underlying4]
 simp
 grind
theorem eg_37 : Try.prog.eqGuardType Try.prog.depth 37 = false := by kernel_rfl
theorem info_137 : (Try.prog.info? 137).map (fun i => (i.zero, i.size, i.bytes)) = some (some (.agg #[.int .i64 0, .int .i64 0]), 2, 16) := by kernel_rfl
theorem lay_140 : layoutOf Try.prog 140 = some ([.int .i64 0, .int .i64 0, .int .i64 0], [(0, 1), (1, 2)]) := by kernel_rfl
theorem endm_ct {P : Program} {e : Env} {ds : List Deferred} {w : World} {fn : Func} {R : Value → World → Prop} {t0 : Tmp} {v0 : Value} {y0 : TypeId} {a0 : Addr} {t1 : Tmp} {v1 : Value} (hres : fn.results = #[.cell t0 y0, .tmp t1]) (hd : ds = []) (h0 : e t0 = .pointer (some a0)) (l0 : (loadVar y0 a0).run P w = .ok v0 w) (h1 : e t1 = v1) (h : R (.tuple #[v0, v1]) w) : atEnd P fn R .ret e ds w :=
 ⟨hd, fun tmps ht => ⟨_, by simp [results, hres, ht, asAddr, h0, l0, h1], h⟩⟩
theorem endm_ctt {P : Program} {e : Env} {ds : List Deferred} {w : World} {fn : Func} {R : Value → World → Prop} {t0 : Tmp} {v0 : Value} {y0 : TypeId} {a0 : Addr} {t1 : Tmp} {v1 : Value} {t2 : Tmp} {v2 : Value} (hres : fn.results = #[.cell t0 y0, .tmp t1, .tmp t2]) (hd : ds = []) (h0 : e t0 = .pointer (some a0)) (l0 : (loadVar y0 a0).run P w = .ok v0 w) (h1 : e t1 = v1) (h2 : e t2 = v2) (h : R (.tuple #[v0, v1, v2]) w) : atEnd P fn R .ret e ds w :=
 ⟨hd, fun tmps ht => ⟨_, by simp [results, hres, ht, asAddr, h0, l0, h1, h2], h⟩⟩
theorem lay_129 : layoutOf Try.prog 129 = some ([.int .i64 0, .slice none 0 0, .slice none 0 0], [(0, 1), (1, 1), (2, 1)]) := by kernel_rfl
theorem lay_155 : layoutOf Try.prog 155 = some ([.int .i64 0, .slice none 0 0], [(0, 2)]) := by kernel_rfl
theorem info_9 : (Try.prog.info? 9).map (fun i => (i.zero, i.size, i.bytes)) = some (some (Str.v ⟨[]⟩), 1, 16) := by kernel_rfl
theorem plain_FaultDamage : Plain FaultDamage := fun _ m' _ w' x _ h => (plain_two plain_int (plain_two plain_int (plain_two plain_int (plain_two plain_int plain_bool)))) _ m' _ w' _ _ h
theorem endm_ccc {P : Program} {e : Env} {ds : List Deferred} {w : World} {fn : Func} {R : Value → World → Prop} {t0 : Tmp} {v0 : Value} {y0 : TypeId} {a0 : Addr} {t1 : Tmp} {v1 : Value} {y1 : TypeId} {a1 : Addr} {t2 : Tmp} {v2 : Value} {y2 : TypeId} {a2 : Addr} (hres : fn.results = #[.cell t0 y0, .cell t1 y1, .cell t2 y2]) (hd : ds = []) (h0 : e t0 = .pointer (some a0)) (l0 : (loadVar y0 a0).run P w = .ok v0 w) (h1 : e t1 = .pointer (some a1)) (l1 : (loadVar y1 a1).run P w = .ok v1 w) (h2 : e t2 = .pointer (some a2)) (l2 : (loadVar y2 a2).run P w = .ok v2 w) (h : R (.tuple #[v0, v1, v2]) w) : atEnd P fn R .ret e ds w :=
 ⟨hd, fun tmps ht => ⟨_, by simp [results, hres, ht, asAddr, h0, l0, h1, l1, h2, l2], h⟩⟩
theorem info_51 : (Try.prog.info? 51).map (fun i => (i.zero, i.size, i.bytes)) = some (some (.agg #[.int .i64 0, .int .i64 0, .bool false]), 3, 24) := by kernel_rfl
theorem tup2_0 {b0 b1 : Value} {B0 : Value → Prop} {B1 : Value → Prop} (h : ∃ c0 c1 : Value, Value.tuple #[b0, b1] = .tuple #[c0, c1] ∧ B0 c0 ∧ B1 c1) : B0 b0 := by
 obtain ⟨c0, c1, he, h0, h1⟩ := h; simp at he; obtain ⟨rfl, rfl⟩ := he; exact h0
theorem lay_68 : layoutOf Try.prog 68 = some ([.int .i64 0, .int .i64 0], [(0, 1), (1, 1)]) := by kernel_rfl
theorem info_68 : (Try.prog.info? 68).map (fun i => (i.zero, i.size, i.bytes)) = some (some (.agg #[.int .i64 0, .int .i64 0]), 2, 16) := by kernel_rfl
def f54 (x0 : List Int) : Option (List Int) := apnd 8 [] x0
theorem en54 : Enters Try.prog 54 := enters_of Try.func54 (by kernel_rfl) rfl
def f86 (x0 : List FaultDamage) : Option (List FaultDamage) := apnd 40 [] x0
theorem en86 : Enters Try.prog 86 := enters_of Try.func86 (by kernel_rfl) rfl
theorem atS_0 (a : Addr) (w : World) : (Instr.fieldAt 227 (.pointer (some a)) 0).run Try.prog w = .ok (.pointer (some (a.add 0))) w := by simp [Instr.fieldAt, run_underlying Try.underlying227, Instr.sureAddr, fieldPlace, Result.andThen]
theorem atS_1 (a : Addr) (w : World) : (Instr.fieldAt 227 (.pointer (some a)) 1).run Try.prog w = .ok (.pointer (some (a.add 1))) w := by simp [Instr.fieldAt, run_underlying Try.underlying227, Instr.sureAddr, fieldPlace, Result.andThen]
theorem sb_size : (Try.prog.info? 227).map (·.size) = some 2 := by kernel_rfl
theorem sb_psize : ∃ j, Try.prog.info? 227 = some j ∧ j.size = 2 := Option.map_eq_some_iff.1 sb_size
theorem en161 : Enters Try.prog 161 := enters_of Try.func161 (by kernel_rfl) rfl
theorem ob_shape {i : Nat} {g : Gh} {w : World} {x : Fv × List UInt8} {b o : Nat} (hb : OB i g w 227 x (.pointer (some ⟨b, o, none⟩))) : o = 0 ∧ w.shape? b = some (227, 2) := by
 obtain ⟨b', cs, hp, _, _, hh, hr⟩ := hb
 injection hp with hp; injection hp with hp; injection hp with h1 h2
 subst h1; subst h2
 have hl := GoT.len hr
 simp [GoT.k] at hl
 exact ⟨rfl, by simp [World.shape?, hh, hl]⟩
theorem wk161 {i j : Nat} (hji : Nat.beq j i = false) {g : Gh} {w : World} {a : Fv} {xs : List UInt8} {p : Value} (hb : OB i g w 227 (a, xs) p) (ho : OSF i j 1 g w 5 227 xs p) (ha : a.v = .pointer none ∨ a.v = p) :
  Calls Try.prog 161 #[p] w fun r w' => ∃ v, r = .returned v ∧ ∃ g', Stp i g w g' w' ∧ ∃ a' : Fv, a'.v = p ∧ OB i g' w' 227 (a', xs) p ∧ OSF i j 1 g' w' 5 227 xs p := by
 obtain ⟨b, o, rfl⟩ := hb.ptr
 obtain ⟨hoff, hsh⟩ := ob_shape hb
 subst hoff
 obtain ⟨jt, hj, hjs⟩ := sb_psize
 refine calls_of_E Try.func161 rfl (Nat.le_of_ble_eq_true rfl) ?_
 show E _ 20 none _ _ _ _ _
 refine E_seq (E_region (EL_mw (.pointer (some ⟨b, 0, none⟩)) rfl rfl ?_))
 refine EL_p (.pointer (some ⟨b, 0, none⟩)) (P_nilCheck rfl) rfl ?_
 refine EL_p (fPtr (.pointer (some ⟨b, 0, none⟩)) 0) (P_fieldAddr atS_0 rfl ⟨b, 0, rfl⟩) rfl ?_
 refine EL_do .plain rfl (D_loadF (g := g) (a := (a, xs)) Sub.fst Try.isAgg225 Try.sizeOf225 rfl hb fun v r => ?_)
 obtain rfl := RV_fv.1 r
 rcases ha with ha | ha
 ·refine EL_p (.bool true) (P_ptreq (u2 := .pointer none) (.inl rfl) (show _ = .pointer none from ha) rfl ⟨_, rfl⟩ ⟨_, rfl⟩ (fun w => by simpa using run_eql_pointer_nil (P := Try.prog) w 225 none Try.underlying225)) rfl ?_
  refine EL_nil (thn_n (E_cond_true rfl (E_region ?_)))
  refine EL_mw (.pointer (some ⟨b, 0, none⟩)) rfl rfl ?_
  refine EL_mw (.pointer (some ⟨b, 0, none⟩)) rfl rfl ?_
  refine EL_val (v := .pointer (some ⟨b, 0, none⟩)) (w' := w) .plain (fun _ h => by cases h) rfl (by
   have := Lib.run_to_unsafe w ⟨b, 0, none⟩ Try.underlying225 Try.underlying295 hj (by rw [hjs]; decide) hsh (by show 0 < 2; omega)
   show (Sem.run _ (execOp _ _) _) = _
   simp only [execOp, Sem.run_bind]
   rw [show ev _ (Operand.tmp 8) = Value.pointer (some ⟨b, 0, none⟩) from rfl, this]
   rfl) ?_
  refine EL_p (.pointer (some ⟨b, 0, none⟩)) (P_extern Try.func184 (by kernel_rfl) (by kernel_rfl) (by kernel_rfl) (ex := Extern.AbiNoEscape.same) (by kernel_rfl) (.cons rfl .nil) (fun _ => rfl)) rfl ?_
  refine EL_val (v := .pointer (some ⟨b, 0, none⟩)) (w' := w) .plain (fun _ h => by cases h) rfl (by
   have := Lib.run_from_unsafe w ⟨b, 0, none⟩ Try.underlying295 Try.underlying225 hj hsh (by kernel_rfl)
   show (Sem.run _ (execOp _ _) _) = _
   simp only [execOp, Sem.run_bind]
   rw [show ev _ (Operand.tmp 10) = Value.pointer (some ⟨b, 0, none⟩) from rfl, this]
   rfl) ?_
  refine EL_p (.pointer (some ⟨b, 0, none⟩)) (P_nilCheck rfl) rfl ?_
  refine EL_p (fPtr (.pointer (some ⟨b, 0, none⟩)) 0) (P_fieldAddr atS_0 rfl ⟨b, 0, rfl⟩) rfl ?_
  refine EL_do .plain rfl (D_storeFc (g := g) (a := (a, xs)) (b := (⟨.pointer (some ⟨b, 0, none⟩), rfl⟩ : Fv)) SubS.fst Try.sizeOf225 rfl hb rfl (RV_fv.2 rfl) fun g1 w1 hs b1 rst _ => ?_)
  exact EL_nil (end0n rfl rfl ⟨g1, hs, _, rfl, b1, ho.rest hs rst rfl hji⟩)
 ·refine EL_p (.bool false) (P_ptreq (u2 := .pointer none) (.inl rfl) (show _ = .pointer (some ⟨b, 0, none⟩) from ha) rfl ⟨_, rfl⟩ ⟨_, rfl⟩ (fun w => by simpa using run_eql_pointer_nil (P := Try.prog) w 225 (some ⟨b, 0, none⟩) Try.underlying225)) rfl ?_
  refine EL_nil (thn_n (E_cond_false rfl ?_))
  refine E_seq (E_region (EL_mw (.pointer (some ⟨b, 0, none⟩)) rfl rfl ?_))
  refine EL_p (.pointer (some ⟨b, 0, none⟩)) (P_nilCheck rfl) rfl ?_
  refine EL_p (fPtr (.pointer (some ⟨b, 0, none⟩)) 0) (P_fieldAddr atS_0 rfl ⟨b, 0, rfl⟩) rfl ?_
  refine EL_do .plain rfl (D_loadF (g := g) (a := (a, xs)) Sub.fst Try.isAgg225 Try.sizeOf225 rfl hb fun v r => ?_)
  obtain rfl := RV_fv.1 r
  refine EL_mw (.pointer (some ⟨b, 0, none⟩)) rfl rfl ?_
  refine EL_p (.bool false) (P_ptreq (.inr rfl) (show _ = .pointer (some ⟨b, 0, none⟩) from ha) rfl ⟨_, rfl⟩ ⟨_, rfl⟩ (fun w => Lib.run_neq_ptr_same w ⟨b, 0, none⟩ Try.underlying225 hj)) rfl ?_
  refine EL_nil (thn_n (E_cond_false rfl (E_skip ?_)))
  exact end0n rfl rfl ⟨g, stp_refl _ _ _, _, ha, hb, ho⟩
theorem en122 : Enters Try.prog 122 := enters_of Try.func122 (by kernel_rfl) rfl
theorem wk122 {i j : Nat} (hji : Nat.beq j i = false) (hij : Nat.beq i j = false) {g : Gh} {w : World} {c : UInt8} {xs r : List UInt8} {p : Value} (hsb : SB i j g w 5 227 xs p) (hr : apnd 1 xs [c] = some r) :
  Calls Try.prog 122 #[p, .int .u8 c.toNat] w fun q w' => ∃ v, q = .returned v ∧ v = .nilIface ∧ WB i j g w 5 227 r p w' := by
 obtain ⟨a, hb, ho, ha⟩ := hsb
 obtain ⟨b, o, rfl⟩ := hb.ptr
 obtain ⟨hoff, hsh⟩ := ob_shape hb
 subst hoff
 refine calls_of_E Try.func122 rfl (Nat.le_of_ble_eq_true rfl) ?_
 show E _ 17 none _ _ _ _ _
 refine E_seq (E_region (EL_at (.nilIface) rfl rfl ?_))
 refine EL_nil (thn_n (E_seq (E_region (EL_mw (.pointer (some ⟨b, 0, none⟩)) rfl rfl ?_))))
 refine EL_do .plain rfl (D_callC (vs := [.pointer (some ⟨b, 0, none⟩)]) en161 (.cons rfl .nil) (wk161 hji hb ho ha) fun v w1 h1 => ?_)
 obtain ⟨g1, hs1, a1, ha1, hb1, ho1⟩ := h1
 refine EL_nil (thn_n (E_seq (E_region (EL_mw (.pointer (some ⟨b, 0, none⟩)) rfl rfl ?_))))
 refine EL_mw (.pointer (some ⟨b, 0, none⟩)) rfl rfl ?_
 refine EL_p (.pointer (some ⟨b, 0, none⟩)) (P_nilCheck rfl) rfl ?_
 refine EL_p (fPtr (.pointer (some ⟨b, 0, none⟩)) 1) (P_fieldAddr atS_1 rfl ⟨b, 0, rfl⟩) rfl ?_
 refine EL_do .plain rfl (D_loadFS (g := g1) (a := (a1, xs)) (f := Prod.snd) Sub.snd Try.isAgg22 Try.sizeOf22 rfl hb1 ho1 fun v2 r2 o2 => ?_)
 refine EL_mw (.int .u8 c.toNat) rfl rfl ?_
 refine EL_do .plain rfl (D_buildSlice (g := g1) 1 (xs := [c]) (vs := [.int .u8 c.toNat]) Try.underlying22 Try.sizeOf5 Try.zeroValue5 rfl rfl (.cons rfl .nil) (RVs.cons (RV_u8.2 rfl) RVs.nil) rfl rfl fun g3 w3 v3 _ _ r3 hxt _ => ?_)
 refine EL_do .plain rfl (D_append (g := g3) (i := j) Try.underlying22 info_5 rfl rfl (o2.ext hxt) (r2.ext hxt) rfl r3 hr fun g4 w4 v4 hs4 o4 r4 _ => ?_)
 have hb4 := (hb1.ext hxt).stp hs4 hij
 refine EL_p (.pointer (some ⟨b, 0, none⟩)) (P_nilCheck rfl) rfl ?_
 refine EL_p (fPtr (.pointer (some ⟨b, 0, none⟩)) 1) (P_fieldAddr atS_1 rfl ⟨b, 0, rfl⟩) rfl ?_
 refine EL_do .plain rfl (D_storeFc (g := g4) (a := (a1, xs)) SubS.snd Try.sizeOf22 rfl hb4 rfl r4 fun g5 w5 hs5 b5 _ hos => ?_)
 have o5 := hos _ _ j 5 r (rv_cells1 r4) hji o4
 refine EL_nil (thn_n (E_seq (E_region (EL_at (.nilIface) rfl rfl ?_))))
 refine EL_nil (thn_n (E_ret (end1 rfl rfl (show _ = .nilIface from rfl) ⟨rfl, g5, ⟨g1, w1, g4, w4, hs1, (hxt.stp.trans hs4), hs5⟩, a1, b5, o5, .inr ha1⟩)))
theorem en125 : Enters Try.prog 125 := enters_of Try.func125 (by kernel_rfl) rfl
theorem mixedS : Try.prog.follows .mixedOrders = true := by kernel_rfl
theorem wk125 {i j : Nat} (hij : Nat.beq i 0 = false) {g : Gh} {w : World} {xs : List UInt8} {p : Value} (hsb : SB i j g w 5 227 xs p) (h0 : xs ≠ []) :
  Calls Try.prog 125 #[p] w fun q w' => ∃ v, q = .returned v ∧ GS j g w xs v w' := by
 obtain ⟨a, hb, ho, ha⟩ := hsb
 obtain ⟨b, o, rfl⟩ := hb.ptr
 obtain ⟨hoff, hsh⟩ := ob_shape hb
 subst hoff
 refine calls_of_E Try.func125 rfl (Nat.le_of_ble_eq_true rfl) ?_
 show E _ 14 none _ _ _ _ _
 refine E_seq (E_region (EL_at (Str.v ⟨[]⟩) rfl rfl ?_))
 refine EL_nil (thn_n (L_loadFSx (f := Prod.snd) (a := (a, xs)) Sub.snd Try.isAgg22 Try.sizeOf22 hb ho fun v r os hl => ?_))
 obtain ⟨sa, c, rfl, hc, _⟩ := RV_list r
 have hne : c ≠ 0 := by
  have : 0 < xs.length := by cases xs with
   | nil => exact absurd rfl h0
   | cons _ _ => simp
  have hc' : xs.length ≤ c := hc
  omega
 refine E_seq (E_drawL (g := g) (n := 10) [] [0, 1, 2, 3, 4, 5, 6, 7, 8, 9] rfl mixedS (by kernel_rfl) trivial ?_)
 refine L_p (.pointer (some ⟨b, 0, none⟩)) rfl rfl (P_move rfl) ?_
 refine L_p (.pointer (some ⟨b, 0, none⟩)) rfl rfl (P_nilCheck rfl) ?_
 refine L_p (fPtr (.pointer (some ⟨b, 0, none⟩)) 1) rfl rfl (P_fieldAddr atS_1 rfl ⟨b, 0, rfl⟩) ?_
 refine L_ld (c := .slice sa xs.length c) rfl rfl .plain (fun _ _ h => ⟨h.ch, fun b hb _ => h.below.block b hb⟩) (hl _) rfl ?_
 refine L_p (.pointer sa) rfl rfl (P_sliceData (a := sa) (n := xs.length) (c := c) rfl (.inl hne)) ?_
 refine L_p (.pointer (some ⟨b, 0, none⟩)) rfl rfl (P_move rfl) ?_
 refine L_p (.pointer (some ⟨b, 0, none⟩)) rfl rfl (P_nilCheck rfl) ?_
 refine L_p (fPtr (.pointer (some ⟨b, 0, none⟩)) 1) rfl rfl (P_fieldAddr atS_1 rfl ⟨b, 0, rfl⟩) ?_
 refine L_ld (c := .slice sa xs.length c) rfl rfl .plain (fun _ _ h => ⟨h.ch, fun b hb _ => h.below.block b hb⟩) (hl _) rfl ?_
 refine L_p (.int .i64 (xs.length : Int)) rfl rfl (P_len (v := .slice sa xs.length c) Try.underlying22 rfl r) ?_
 refine L_nil fun g1 w1 hall => ?_
 have hs := hall.1
 refine EL_do .plain rfl (D_unsafeString (g := g1) (j := j) (et := 5) rfl Try.underlying270 (by kernel_rfl) h0 rfl rfl (os.ext hs) (r.ext hs) fun g2 w2 hs2 => ?_)
 refine EL_at (Str.v ⟨xs⟩) rfl rfl ?_
 exact EL_nil (thn_n (E_ret (end1 rfl rfl (show _ = Str.v ⟨xs⟩ from rfl) ⟨rfl, g2, hs.stp.trans hs2⟩)))
def f11 (x0 : List Int) : Option ((List Int)) :=
 (apnd 8 (([] : List Int)) x0).bind fun y3 =>
 some (y3)
theorem en11 : Enters Try.prog 11 := enters_of Try.func11 (by kernel_rfl) rfl
theorem wk11 {gI : Gh} {wI : World} {x0 : List Int} {up0 : Value} (rp0 : RV gI.m wI x0 up0) {r : (List Int)} (h : f11 x0 = some r) : Fn Try.prog 11 #[up0] gI wI (fun m w v => RV m w (r) v) := by
 unfold f11 at h
 refine fn_of_E Try.func11 rfl (Nat.le_of_ble_eq_true rfl) fun g0 hm hfr => ?_
 have rp0 : RV g0.m wI x0 up0 := hm ▸ rp0
 show E _ 6 none _ _ _ _ _
 refine E_seq (E_region (EL_at (.slice none 0 0) rfl rfl ?_))
 refine EL_nil (thn_n (E_seq (E_region (EL_do .plain rfl (D_buildSlice (g := g0) 3003 (xs := ([] : List Int)) (vs := []) Try.underlying26 Try.sizeOf3 Try.zeroValue3 rfl rfl .nil RVs.nil rfl rfl fun g1 w1 v1 hs o1 r1 hxt hfl => ?_)))))
 have hfr := hfr.stp hs
 have rp0 := rp0.stp hs
 refine EL_mw up0 rfl rfl ?_
 obtain ⟨y3, hy3, h⟩ := bsome h
 refine EL_do .plain rfl (D_append (g := g1) (i := 3003) Try.underlying26 info_3 rfl rfl o1 r1 rfl rp0 hy3 fun g2 w2 v2 hs o2 r2 _ => ?_)
 have hfr := hfr.stp hs
 refine EL_at v2 rfl rfl ?_
 refine EL_nil (thn_n (E_ret ?_))
 obtain rfl := sinj h
 exact end1 rfl rfl (show _ = v2 from rfl) ⟨_, hfr, r2⟩
def f12 (x0 : Design) : Option (Design) :=
 (f11 ((x0).Rows)).bind fun y8 =>
 some ((⟨(x0).Hooks, y8⟩ : Design))
theorem en12 : Enters Try.prog 12 := enters_of Try.func12 (by kernel_rfl) rfl
theorem wk12 {gI : Gh} {wI : World} {x0 : Design} {up0 : Value} (rp0 : RV gI.m wI x0 up0) {r : Design} (h : f12 x0 = some r) : Fn Try.prog 12 #[up0] gI wI (fun m w v => RV m w (r) v) := by
 unfold f12 at h
 refine fn_of_E Try.func12 rfl (Nat.le_of_ble_eq_true rfl) fun g0 hm hfr => ?_
 have rp0 : RV g0.m wI x0 up0 := hm ▸ rp0
 show E _ 9 none _ _ _ _ _
 refine E_seq (E_region (EL_do .plain rfl (D_box (g := g0) rfl rp0 fun g1 w1 p1 hs q1 => ?_)))
 have hfr := hfr.ext hs
 refine EL_do .plain rfl (D_allocOc (g := g1) 2002 (⟨0, []⟩ : Design) Try.zeroValue30 (fun m w => ⟨_, (rep_two rep_int rep_nil), rfl⟩) fun g2 w2 p2 hs b2 cb => ?_)
 have hfr := hfr.stp hs
 have q1 := q1.stp hs
 have u3 : OSF 2002 60201 1 g2 w2 3 30 ([] : List Int) p2 := cb.osf (by rfl)
 clear cb
 refine EL_nil (thn_n (E_seq ?_))
 have q3 := PT_field (part_Design_0).1 q1
 refine L_load (x := .tmp 3) Try.isAgg3 Try.sizeOf3 q3 fun v4 r4 i3 => ?_
 obtain rfl := RV_int.1 r4
 have q5 := PT_field (part_Design_1).1 q1
 refine L_load (x := .tmp 5) Try.isAgg26 Try.sizeOf26 q5 fun v6 r6 j3 => ?_
 obtain ⟨y8, o3, h⟩ := bsome h
 refine E_drawL (g := g2) (n := 5) [(4, (fun v g w => RV g.m w y8 v))] [0, 1, 2, 3, 4] rfl mixed (by kernel_rfl) (⟨fun _ => up_rv, trivial⟩) ?_
 refine L_p (fPtr p1 0) rfl rfl (P_fieldAddr at_30_0 rfl (PT.ptr q1)) ?_
 refine L_ld (c := .int .i64 ((x0).Hooks)) rfl rfl .plain (fun _ _ h => h.ch) i3 rfl ?_
 refine L_p (fPtr p1 1) rfl rfl (P_fieldAddr at_30_1 rfl (PT.ptr q1)) ?_
 refine L_ld (c := v6) rfl rfl .plain (fun _ _ h => h.ch) j3 rfl ?_
 refine L_do (φ := fun v g w => RV g.m w y8 v) rfl rfl .plain (fun g w hd => D_call (g := g) (vs := [v6]) en11 (.cons rfl .nil) (wk11 (r6.ext hd.1) o3) fun g' w' v hs hr => ⟨g', hs, hr⟩) (fun v7 hv => ?_)
 obtain ⟨_, _, _, rq7⟩ := hv
 refine L_nil fun g9 w9 hall => ?_
 have hs := hall.1
 have hfr := hfr.ext hs
 have b2 := b2.ext hs
 have o0 := (word_all (A := fun g w => RV g.m w y8 v7) 4 rfl hall)
 clear hs hall
 have u0 : RV g9.m _ (⟨(x0).Hooks, y8⟩ : Design) (.agg (setCh [[.int .i64 0], [.slice none 0 0]] [(0, .int .i64 ((x0).Hooks)), (1, v7)]).flatten.toArray) := RV_build rfl (rep_pair (rfl) (rep_last (RV.cells o0)))
 generalize z2 : (Value.agg (setCh [[.int .i64 0], [.slice none 0 0]] [(0, .int .i64 ((x0).Hooks)), (1, v7)]).flatten.toArray) = j1 at u0
 refine EL_p j1 (z2 ▸ P_build (vs := [(0, .int .i64 ((x0).Hooks)), (1, v7)]) [[.int .i64 0], [.slice none 0 0]] lay_30 rfl rfl (.cons rfl (.cons rfl .nil)) ⟨⟨_, rfl, rfl⟩, ⟨⟨_, rfl, cells_size o0⟩, trivial⟩⟩) rfl ?_
 refine EL_do .plain rfl (D_storeOc (g := g9) (v := j1) Try.sizeOf30 rfl b2 rfl u0 fun z3 z4 hs b19 cb => ?_)
 clear cb
 have hfr := hfr.stp hs
 refine EL_nil (thn_n (E_ret ?_))
 obtain rfl := sinj h
 obtain ⟨ad20, cv20, hp20, d3, cr20⟩ := ob_read Try.isAgg30 Try.sizeOf30 b19
 exact endm_c rfl rfl ((show _ = p2 from rfl).trans hp20) d3 ⟨_, hfr, cr20⟩
def f19 (x0 : List Int) (x1 : List Int) : Option (Bool) :=
 jn (σ := Unit) (fun _ =>
  jn (σ := Unit) (fun _ =>
   some (true)
   ) fun k53 =>
  lp (σ := Int) (fun k54 o0 =>
   jn (σ := Unit) (fun _ =>
    jn (σ := Unit) (fun _ =>
     k54 ((w64 (o0 + (1 : Int))))
     ) fun b7 =>
    (idx x0 o0).bind fun j3 =>
    (idx x1 o0).bind fun o3 =>
    bif (j3 != o3) then
     some (false)
    else
     b7 ()
    ) fun k57 =>
   bif (decide (o0 < ((x0).length : Int))) then
    k57 ()
   else
    k53 ()
   ) big ((0 : Int))
  ) fun k2 =>
 bif (((x0).length : Int) != ((x1).length : Int)) then
  some (false)
 else
  k2 ()
theorem en19 : Enters Try.prog 19 := enters_of Try.func19 (by kernel_rfl) rfl
theorem wk19 {gI : Gh} {wI : World} {x0 : List Int} {x1 : List Int} {up0 : Value} (rp0 : RV gI.m wI x0 up0) {up1 : Value} (rp1 : RV gI.m wI x1 up1) {r : Bool} (h : f19 x0 x1 = some r) : Fn Try.prog 19 #[up0, up1] gI wI (fun _ _ v => v = .bool (r)) := by
 unfold f19 at h
 refine fn_of_E Try.func19 rfl (Nat.le_of_ble_eq_true rfl) fun g0 hm hfr => ?_
 have rp0 : RV g0.m wI x0 up0 := hm ▸ rp0
 have rp1 : RV g0.m wI x1 up1 := hm ▸ rp1
 show E _ 26 none _ _ _ _ _
 refine E_seq (E_region (EL_at (.bool false) rfl rfl ?_))
 refine EL_nil (thn_n (E_joinC h (fun (s : Unit) e w => ∃ (g : Gh) , Fr gI wI g w ∧ e 0 = up0 ∧ RV g.m w (x0 : List Int) up0 ∧ e 1 = up1 ∧ RV g.m w (x1 : List Int) up1) (fun X2 k2 hk2 h => ?_) ?_))
 ·refine E_seq (E_region (EL_mw up0 rfl rfl ?_))
  refine EL_p (.int .i64 ((x0).length : Int)) (P_len Try.underlying26 rfl rp0) rfl ?_
  refine EL_mw up1 rfl rfl ?_
  refine EL_p (.int .i64 ((x1).length : Int)) (P_len Try.underlying26 rfl rp1) rfl ?_
  refine EL_in (.bool ((((x0).length : Int) != ((x1).length : Int)))) rfl rfl rfl rfl ?_
  refine EL_nil (thn_n ?_)
  rcases csome h with ⟨hc3, h⟩ | ⟨hc3, h⟩
  ·refine E_ct hc3 rfl ?_
   refine E_seq (E_region (EL_at (.bool false) rfl rfl ?_))
   refine EL_nil (thn_n (E_ret (thn_r ?_)))
   obtain rfl := sinj h
   exact end1 rfl rfl (show _ = .bool false from rfl) ⟨_, hfr, rfl⟩
  ·refine E_cf hc3 rfl ?_
   exact E_skip (thn_n (hk2 () _ _ ⟨g0, hfr, rfl, rp0, rfl, rp1⟩ h))
 ·rintro _ y8 w4 ⟨g4, hfr, d7, e7, g7, i7⟩ h
  refine E_joinC h (fun (s : Unit) e w => ∃ (g : Gh) , Fr gI wI g w) (fun X53 k53 j7 h => ?_) ?_
  ·refine E_seq (E_region (EL_at (.int .i64 (0)) rfl rfl ?_))
   refine EL_nil (thn_n (E_block ?_))
   refine E_lp h (fun (s : Int) e w => ∃ (g : Gh) , Fr gI wI g w ∧ e 0 = up0 ∧ RV g.m w (x0 : List Int) up0 ∧ e 1 = up1 ∧ RV g.m w (x1 : List Int) up1 ∧ e 5 = .int .i64 (s)) ⟨g4, hfr, d7, e7, g7, i7, rfl⟩ (fun X54 k54 m7 => ?_)
   rintro o0 q8 a9 ⟨c7, hfr, u3, z3, y6, a7, z4⟩ h
   refine E_joinC h (fun (s : Unit) e w => ∃ (g : Gh) , Fr gI wI g w ∧ e 0 = up0 ∧ RV g.m w (x0 : List Int) up0 ∧ e 1 = up1 ∧ RV g.m w (x1 : List Int) up1 ∧ e 5 = .int .i64 (o0)) (fun X57 k57 n7 h => ?_) ?_
   ·refine E_seq (E_region (EL_mv z4 rfl ?_))
    refine EL_mv u3 rfl ?_
    refine EL_p (.int .i64 ((x0).length : Int)) (P_len Try.underlying26 rfl z3) rfl ?_
    refine EL_in (.bool ((decide (o0 < ((x0).length : Int))))) rfl rfl rfl rfl ?_
    refine EL_nil (thn_n ?_)
    rcases csome h with ⟨i3, h⟩ | ⟨i3, h⟩
    ·refine E_ct i3 rfl ?_
     exact E_skip (thn_n (n7 () _ _ ⟨c7, hfr, u3, z3, y6, a7, z4⟩ h))
    ·refine E_cf i3 rfl ?_
     refine E_exit ?_
     refine thn_e ?_
     refine thn_e ?_
     refine blk_hit ?_
     exact thn_n (j7 () _ _ ⟨c7, hfr⟩ h)
   ·rintro _ r8 d9 ⟨e8, hfr, i5, u0, l5, j1, z2⟩ h
    refine E_joinC h (fun (s : Unit) e w => ∃ (g : Gh) , Fr gI wI g w ∧ e 0 = up0 ∧ RV g.m w (x0 : List Int) up0 ∧ e 1 = up1 ∧ RV g.m w (x1 : List Int) up1 ∧ e 5 = .int .i64 (o0)) (fun X81 b7 o7 h => ?_) ?_
    ·refine E_block ?_
     refine E_seq ?_
     obtain ⟨j3, q5, h⟩ := bsome h
     have g8 := PT_idx u0 q5
     refine L_load (x := .tmp 19) Try.isAgg3 Try.sizeOf3 g8 fun e9 i8 u7 => ?_
     obtain rfl := RV_int.1 i8
     obtain ⟨o3, t5, h⟩ := bsome h
     have k8 := PT_idx j1 t5
     refine L_load (x := .tmp 23) Try.isAgg3 Try.sizeOf3 k8 fun i9 l8 v7 => ?_
     obtain rfl := RV_int.1 l8
     refine E_drawL (g := e8) (n := 9) [] [0, 1, 2, 3, 4, 5, 6, 7, 8] rfl mixed (by kernel_rfl) trivial ?_
     refine L_p up0 rfl rfl (P_move i5) ?_
     refine L_p (.int .i64 (o0)) rfl rfl (P_move z2) ?_
     refine L_p (ePtr up0 o0 1) rfl rfl (P_indexAddr (α := Int) Try.underlying26 Try.sizeOf3 rfl u0 rfl q5) ?_
     refine L_ld (c := .int .i64 (j3)) rfl rfl .plain (fun _ _ h => h.ch) u7 rfl ?_
     refine L_p up1 rfl rfl (P_move l5) ?_
     refine L_p (.int .i64 (o0)) rfl rfl (P_move z2) ?_
     refine L_p (ePtr up1 o0 1) rfl rfl (P_indexAddr (α := Int) Try.underlying26 Try.sizeOf3 rfl j1 rfl t5) ?_
     refine L_ld (c := .int .i64 (o3)) rfl rfl .plain (fun _ _ h => h.ch) v7 rfl ?_
     refine L_p (.bool ((j3 != o3))) rfl rfl (P_int rfl rfl rfl) ?_
     refine L_nl fun m8 k9 hs => ?_
     have hfr := hfr.ext hs
     have u0 := u0.ext hs
     have j1 := j1.ext hs
     clear hs
     refine EL_nil (thn_n ?_)
     rcases csome h with ⟨d3, h⟩ | ⟨d3, h⟩
     ·refine E_ct d3 rfl ?_
      refine E_seq (E_region (EL_at (.bool false) rfl rfl ?_))
      refine EL_nil (thn_n (E_ret (blk_r ?_)))
      refine thn_r ?_
      refine thn_r ?_
      refine blk_r ?_
      refine thn_r ?_
      obtain rfl := sinj h
      exact end1 rfl rfl (show _ = .bool false from rfl) ⟨_, hfr, rfl⟩
     ·refine E_cf d3 rfl ?_
      exact E_skip (blk_n (thn_n (o7 () _ _ ⟨m8, hfr, i5, u0, l5, j1, z2⟩ h)))
    ·rintro _ n8 t8 ⟨c8, hfr, x5, i6, j6, v6, x6⟩ h
     refine E_region (EL_mv x6 rfl ?_)
     refine EL_in (.int .i64 ((w64 (o0 + (1 : Int))))) rfl rfl rfl rfl ?_
     refine EL_at (.int .i64 ((w64 (o0 + (1 : Int))))) rfl rfl ?_
     exact EL_nil (thn_n (m7 ((w64 (o0 + (1 : Int)))) _ _ ⟨c8, hfr, x5, i6, j6, v6, rfl⟩ h))
  ·rintro _ o8 v8 ⟨x8, hfr⟩ h
   refine E_seq (E_region (EL_at (.bool true) rfl rfl ?_))
   refine EL_nil (thn_n (E_ret ?_))
   obtain rfl := sinj h
   exact end1 rfl rfl (show _ = .bool true from rfl) ⟨_, hfr, rfl⟩
def f30 (x0 : Loom) : Option (TieHarness) :=
 (rem64 (((x0).Hooks).toNat : Int) (12 : Int)).bind fun y5 =>
 Option.bind (α := TieHarness) (
  lp (σ := TieHarness × Int) (fun v8 (j1, o0) =>
   jn (σ := Unit) (fun _ =>
    Option.bind (α := TieHarness) (
     Option.bind (α := Int) (
      bif (decide (o0 < (((x0).Warps).length : Int))) then
       (idx ((x0).Warps) o0).bind fun n7 =>
       (rem64 ((n7).toNat : Int) (j1).Hooks).bind fun o7 =>
       some (o7)
      else
       some ((0 : Int))
      ) fun i5 =>
     (apnd 8 ((j1).Warps) (([i5] : List Int))).bind fun o8 =>
     some ({ j1 with Warps := o8 })
     ) fun l5 =>
    v8 (l5, (w64 (o0 + (1 : Int))))
    ) fun x8 =>
   Option.bind (α := Bool) (
    bif (o0 == (0 : Int)) then
     some (true)
    else
     bif (decide (o0 < (((x0).Warps).length : Int))) then
      some ((decide (o0 < (30 : Int))))
     else
      some (false)
    ) fun o3 =>
   bif o3 then
    x8 ()
   else
    some (j1)
   ) big ((⟨(w64 ((1 : Int) + y5)), []⟩ : TieHarness), (0 : Int))
  ) fun t5 =>
 some (t5)
theorem en30 : Enters Try.prog 30 := enters_of Try.func30 (by kernel_rfl) rfl
theorem wk30 {gI : Gh} {wI : World} {x0 : Loom} {up0 : Value} (rp0 : RV gI.m wI x0 up0) {r : TieHarness} (h : f30 x0 = some r) : Fn Try.prog 30 #[up0] gI wI (fun m w v => RV m w (r) v) := by
 unfold f30 at h
 refine fn_of_E Try.func30 rfl (Nat.le_of_ble_eq_true rfl) fun g0 hm hfr => ?_
 have rp0 : RV g0.m wI x0 up0 := hm ▸ rp0
 show E _ 48 none _ _ _ _ _
 refine E_seq (E_region (EL_do .plain rfl (D_box (g := g0) rfl rp0 fun g1 w1 p1 hs q1 => ?_)))
 have hfr := hfr.ext hs
 refine EL_do .plain rfl (D_allocOc (g := g1) 2002 (⟨0, []⟩ : TieHarness) Try.zeroValue28 (fun m w => ⟨_, (rep_two rep_int rep_nil), rfl⟩) fun g2 w2 p2 hs b2 cb => ?_)
 have hfr := hfr.stp hs
 have q1 := q1.stp hs
 have y6 : OSF 2002 60201 1 g2 w2 3 28 ([] : List Int) p2 := cb.osf (by rfl)
 clear cb
 refine EL_nil (thn_n (E_seq (E_region (EL_p (fPtr p1 0) (P_fieldAddr at_25_0 rfl (PT.ptr q1)) rfl ?_))))
 have q3 := PT_field (part_Loom_0).1 q1
 refine EL_do .plain rfl (D_load (g := g2) Try.isAgg5 Try.sizeOf5 rfl q3 fun v4 r4 => ?_)
 obtain rfl := RV_u8.1 r4
 refine EL_p (.int .i64 ((((x0).Hooks).toNat : Int))) (P_u8int Try.underlying5 Try.underlying3 rfl) rfl ?_
 obtain ⟨y5, hy5, h⟩ := bsome h
 refine EL_p (.int .i64 (y5)) (P_int rfl rfl (congrArg (Option.map (Value.int .i64)) hy5)) rfl ?_
 refine EL_in (.int .i64 ((w64 ((1 : Int) + y5)))) rfl rfl rfl rfl ?_
 have r6 : RV g2.m w2 (⟨(w64 ((1 : Int) + y5)), []⟩ : TieHarness) (.agg (setCh [[.int .i64 0], [.slice none 0 0]] [(0, .int .i64 ((w64 ((1 : Int) + y5))))]).flatten.toArray) := RV_build rfl (rep_pair (rfl) (rep_last (rep_nil)))
 generalize cB : (Value.agg (setCh [[.int .i64 0], [.slice none 0 0]] [(0, .int .i64 ((w64 ((1 : Int) + y5))))]).flatten.toArray) = v6 at r6
 refine EL_p v6 (cB ▸ P_build (vs := [(0, .int .i64 ((w64 ((1 : Int) + y5))))]) [[.int .i64 0], [.slice none 0 0]] lay_28 rfl rfl (.cons rfl .nil) ⟨⟨_, rfl, rfl⟩, trivial⟩) rfl ?_
 refine EL_do .plain rfl (D_allocOc (g := g2) 2003 (⟨0, []⟩ : TieHarness) Try.zeroValue28 (fun m w => ⟨_, (rep_two rep_int rep_nil), rfl⟩) fun g7 w7 p7 hs b7 cb => ?_)
 have hfr := hfr.stp hs
 have q1 := q1.stp hs
 have y6 := y6.stp hs rfl
 have b2 := b2.stp hs rfl
 have r6 := r6.stp hs
 have qC : OSF 2003 60301 1 g7 w7 3 28 ([] : List Int) p7 := cb.osf (by rfl)
 clear cb
 refine EL_do .plain rfl (D_storeOc (g := g7) (v := v6) Try.sizeOf28 rfl b7 rfl r6 fun g8 w8 hs b8 cb => ?_)
 have dB : OSF 2003 60301 1 g8 w8 3 28 ([] : List Int) p7 := cb.osf (by rw [← cB]; rfl)
 clear cb
 have hfr := hfr.stp hs
 have q1 := q1.stp hs
 have y6 := y6.stp hs rfl
 have b2 := b2.stp hs rfl
 refine EL_nil (thn_n ?_)
 obtain ⟨t5, hx, h⟩ := bsome h
 refine E_join (fun e w => ∃ (g : Gh) , Fr gI wI g w ∧ e 2 = p2 ∧ OB 2002 g w 28 ((⟨0, []⟩ : TieHarness) : TieHarness) p2 ∧ OSF 2002 60201 1 g w 3 28 (((⟨0, []⟩ : TieHarness)).Warps) p2 ∧ e 3 = p7 ∧ OB 2003 g w 28 (t5 : TieHarness) p7 ∧ OSF 2003 60301 1 g w 3 28 ((t5).Warps) p7) (fun Q' hQ => ?_) (fun eC rC hR => ?_)
 ·replace h := hx
  clear hx
  refine E_seq (E_region (EL_at (.int .i64 (0)) rfl rfl ?_))
  refine EL_nil (thn_n (E_block ?_))
  refine E_lp h (fun (s : TieHarness × Int) e w => ∃ (g : Gh) , Fr gI wI g w ∧ e 1 = p1 ∧ PT g.m w (x0 : Loom) p1 ∧ e 2 = p2 ∧ OB 2002 g w 28 ((⟨0, []⟩ : TieHarness) : TieHarness) p2 ∧ OSF 2002 60201 1 g w 3 28 (((⟨0, []⟩ : TieHarness)).Warps) p2 ∧ e 3 = p7 ∧ OB 2003 g w 28 (s.1 : TieHarness) p7 ∧ OSF 2003 60301 1 g w 3 28 ((s.1).Warps) p7 ∧ e 4 = .int .i64 (s.2)) ⟨g8, hfr, rfl, q1, rfl, b2, y6, rfl, b8, dB, rfl⟩ (fun X175 v8 rA => ?_)
  rintro ⟨j1, o0⟩ iC tC ⟨u7, hfr, x5, q5, a7, c7, u2_1_176, d7, e7, u3_1_176, u3⟩ h
  refine E_joinC h (fun (s : Unit) e w => ∃ (g : Gh) , Fr gI wI g w ∧ e 1 = p1 ∧ PT g.m w (x0 : Loom) p1 ∧ e 2 = p2 ∧ OB 2002 g w 28 ((⟨0, []⟩ : TieHarness) : TieHarness) p2 ∧ OSF 2002 60201 1 g w 3 28 (((⟨0, []⟩ : TieHarness)).Warps) p2 ∧ e 3 = p7 ∧ OB 2003 g w 28 (j1 : TieHarness) p7 ∧ OSF 2003 60301 1 g w 3 28 ((j1).Warps) p7 ∧ e 4 = .int .i64 (o0)) (fun X187 x8 sA h => ?_) ?_
  ·obtain ⟨o3, hx, h⟩ := bsome h
   refine E_join (fun e w => ∃ (g : Gh) , Fr gI wI g w ∧ e 1 = p1 ∧ PT g.m w (x0 : Loom) p1 ∧ e 2 = p2 ∧ OB 2002 g w 28 ((⟨0, []⟩ : TieHarness) : TieHarness) p2 ∧ OSF 2002 60201 1 g w 3 28 (((⟨0, []⟩ : TieHarness)).Warps) p2 ∧ e 3 = p7 ∧ OB 2003 g w 28 (j1 : TieHarness) p7 ∧ OSF 2003 60301 1 g w 3 28 ((j1).Warps) p7 ∧ e 4 = .int .i64 (o0) ∧ e 24 = .bool (o3)) (fun Q' hQ => ?_) (fun jC uC hR => ?_)
   ·replace h := hx
    clear hx
    refine E_region (EL_mv u3 rfl ?_)
    refine EL_in (.bool ((o0 == (0 : Int)))) rfl rfl rfl rfl ?_
    refine EL_mw (.bool ((o0 == (0 : Int)))) rfl rfl ?_
    rcases csome h with ⟨u0, h⟩ | ⟨u0, h⟩
    ·refine EL_s rfl rfl u0 rfl rfl ?_
     iterate 5 refine EL_s rfl rfl u0 rfl rfl ?_
     refine EL_skip (.off rfl rfl) rfl ?_
     refine EL_skip (.off rfl rfl) rfl ?_
     refine EL_s rfl rfl u0 rfl rfl ?_
     refine EL_p (.bool true) (P_pick (b := (o0 == (0 : Int))) rfl (pick_t u0 rfl)) rfl ?_
     refine EL_nil ?_
     obtain rfl := sinj h
     exact hQ _ _ ⟨u7, hfr, x5, q5, a7, c7, u2_1_176, d7, e7, u3_1_176, u3, rfl⟩
    ·refine EL_y (.int .i64 (o0)) (P_move u3) rfl rfl u0 rfl ?_
     refine EL_y (fPtr p1 1) (P_fieldAddr at_25_1 x5 (PT.ptr q5)) rfl rfl u0 rfl ?_
     have eB := PT_field (part_Loom_1).1 q5
     refine EL_do (.yes2 rfl rfl u0) rfl (D_load (g := u7) Try.isAgg22 Try.sizeOf22 rfl eB fun vC iB => ?_)
     refine EL_y (.int .i64 (((x0).Warps).length : Int)) (P_len Try.underlying22 rfl iB) rfl rfl u0 rfl ?_
     refine EL_y (.bool ((decide (o0 < (((x0).Warps).length : Int))))) (P_int rfl rfl rfl) rfl rfl u0 rfl ?_
     refine EL_y (.bool ((decide (o0 < (((x0).Warps).length : Int))))) (P_move rfl) rfl rfl u0 rfl ?_
     rcases csome h with ⟨z4, h⟩ | ⟨z4, h⟩
     ·refine EL_y (.int .i64 (o0)) (P_move u3) rfl rfl z4 rfl ?_
      refine EL_y (.bool ((decide (o0 < (30 : Int))))) (P_int rfl rfl rfl) rfl rfl z4 rfl ?_
      refine EL_y (.bool ((decide (o0 < (30 : Int))))) (P_pick (b := (decide (o0 < (((x0).Warps).length : Int)))) rfl (pick_t z4 rfl)) rfl rfl u0 rfl ?_
      refine EL_p (.bool ((decide (o0 < (30 : Int))))) (P_pick (b := (o0 == (0 : Int))) rfl (pick_f u0 rfl)) rfl ?_
      refine EL_nil ?_
      obtain rfl := sinj h
      exact hQ _ _ ⟨u7, hfr, x5, q5, a7, c7, u2_1_176, d7, e7, u3_1_176, u3, rfl⟩
     ·refine EL_s rfl rfl z4 rfl rfl ?_
      refine EL_s rfl rfl z4 rfl rfl ?_
      refine EL_y (.bool false) (P_pick (b := (decide (o0 < (((x0).Warps).length : Int)))) rfl (pick_f z4 rfl)) rfl rfl u0 rfl ?_
      refine EL_p (.bool false) (P_pick (b := (o0 == (0 : Int))) rfl (pick_f u0 rfl)) rfl ?_
      refine EL_nil ?_
      obtain rfl := sinj h
      exact hQ _ _ ⟨u7, hfr, x5, q5, a7, c7, u2_1_176, d7, e7, u3_1_176, u3, rfl⟩
   ·clear hx
    obtain ⟨y8, hfr, a9, d9, e8, i8, u2_1_196, k8, l8, u3_1_196, e9, m7⟩ := hR
    rcases csome h with ⟨v7, h⟩ | ⟨v7, h⟩
    ·refine E_cond_true (Eq.trans (show ev _ _ = .bool (o3) from m7) (congrArg Value.bool v7)) ?_
     exact E_skip (thn_n (sA () _ _ ⟨y8, hfr, a9, d9, e8, i8, u2_1_196, k8, l8, u3_1_196, e9⟩ h))
    ·refine E_cond_false (Eq.trans (show ev _ _ = .bool (o3) from m7) (congrArg Value.bool v7)) ?_
     refine E_exit ?_
     refine thn_e ?_
     refine thn_e ?_
     refine blk_hit ?_
     obtain rfl := sinj h
     exact hQ _ _ ⟨y8, hfr, e8, i8, u2_1_196, k8, l8, u3_1_196⟩
  ·rintro _ kC xC ⟨q8, hfr, i6, z2, m8, j6, u2_1_198, i7, z3, u3_1_198, x6⟩ h
   obtain ⟨l5, hx, h⟩ := bsome h
   refine E_join (fun e w => ∃ (g : Gh) , Fr gI wI g w ∧ e 1 = p1 ∧ PT g.m w (x0 : Loom) p1 ∧ e 2 = p2 ∧ OB 2002 g w 28 ((⟨0, []⟩ : TieHarness) : TieHarness) p2 ∧ OSF 2002 60201 1 g w 3 28 (((⟨0, []⟩ : TieHarness)).Warps) p2 ∧ e 3 = p7 ∧ OB 2003 g w 28 (l5 : TieHarness) p7 ∧ OSF 2003 60301 1 g w 3 28 ((l5).Warps) p7 ∧ e 4 = .int .i64 (o0)) (fun Q' hQ => ?_) (fun lC yC hR => ?_)
   ·replace h := hx
    clear hx
    refine E_block ?_
    refine E_seq (E_region (EL_at (.int .i64 (0)) rfl rfl ?_))
    refine EL_nil (thn_n ?_)
    obtain ⟨i5, hx, h⟩ := bsome h
    refine E_join (fun e w => ∃ (g : Gh) , Fr gI wI g w ∧ e 1 = p1 ∧ PT g.m w (x0 : Loom) p1 ∧ e 2 = p2 ∧ OB 2002 g w 28 ((⟨0, []⟩ : TieHarness) : TieHarness) p2 ∧ OSF 2002 60201 1 g w 3 28 (((⟨0, []⟩ : TieHarness)).Warps) p2 ∧ e 3 = p7 ∧ OB 2003 g w 28 (j1 : TieHarness) p7 ∧ OSF 2003 60301 1 g w 3 28 ((j1).Warps) p7 ∧ e 4 = .int .i64 (o0) ∧ e 5 = .int .i64 (i5)) (fun Q' hQ => ?_) (fun mC aD hR => ?_)
    ·replace h := hx
     clear hx
     refine E_seq (E_region (EL_mv x6 rfl ?_))
     refine EL_p (fPtr p1 1) (P_fieldAddr at_25_1 i6 (PT.ptr z2)) rfl ?_
     have jB := PT_field (part_Loom_1).1 z2
     refine EL_do .plain rfl (D_load (g := q8) Try.isAgg22 Try.sizeOf22 rfl jB fun bD kB => ?_)
     refine EL_p (.int .i64 (((x0).Warps).length : Int)) (P_len Try.underlying22 rfl kB) rfl ?_
     refine EL_p (.bool ((decide (o0 < (((x0).Warps).length : Int))))) (P_int rfl rfl rfl) rfl ?_
     refine EL_nil (thn_n ?_)
     rcases csome h with ⟨c8, h⟩ | ⟨c8, h⟩
     ·refine E_ct c8 rfl ?_
      have lB := PT_field (part_Loom_1).1 z2
      refine L_load (x := .tmp 32) Try.isAgg22 Try.sizeOf22 lB fun i9 k9 uA => ?_
      obtain ⟨n7, t8, h⟩ := bsome h
      have mB := PT_idx k9 t8
      refine L_load (x := .tmp 35) Try.isAgg5 Try.sizeOf5 mB fun cD nB xA => ?_
      obtain rfl := RV_u8.1 nB
      refine L_loadO (x := .tmp 38) part_TieHarness_0.1 Try.isAgg3 Try.sizeOf3 z3 fun eD oB yA => ?_
      obtain rfl := RV_int.1 oB
      obtain ⟨o7, zA, h⟩ := bsome h
      refine E_drawL (g := q8) (n := 10) [] [0, 1, 2, 3, 4, 5, 6, 7, 8, 9] rfl mixed (by kernel_rfl) trivial ?_
      refine L_p (fPtr p1 1) rfl rfl (P_fieldAddr at_25_1 i6 (PT.ptr z2)) ?_
      refine L_ld (c := i9) rfl rfl .plain (fun _ _ h => h.ch) uA rfl ?_
      refine L_p (.int .i64 (o0)) rfl rfl (P_move x6) ?_
      refine L_p (ePtr i9 o0 1) rfl rfl (P_indexAddr (α := UInt8) Try.underlying22 Try.sizeOf5 rfl k9 rfl t8) ?_
      refine L_ld (c := .int .u8 (UInt8.toNat (n7))) rfl rfl .plain (fun _ _ h => h.ch) xA rfl ?_
      refine L_p (.int .i64 (((n7).toNat : Int))) rfl rfl (P_u8int Try.underlying5 Try.underlying3 rfl) ?_
      refine L_p (fPtr p7 0) rfl rfl (P_fieldAddr at_28_0 i7 (OB.ptr z3)) ?_
      refine L_ld (c := .int .i64 ((j1).Hooks)) rfl rfl .plain (fun _ _ h => ⟨h.ch, fun b hb _ => h.below.block b hb⟩) yA rfl ?_
      refine L_p (.int .i64 (o7)) rfl rfl (P_int rfl rfl (congrArg (Option.map (Value.int .i64)) zA)) ?_
      refine L_p (.int .i64 (o7)) rfl rfl (P_assign rfl) ?_
      refine L_nl fun tB gD hs => ?_
      have hfr := hfr.ext hs
      have z2 := z2.ext hs
      have u2_1_198 := u2_1_198.ext hs
      have j6 := j6.ext hs
      have u3_1_198 := u3_1_198.ext hs
      have z3 := z3.ext hs
      clear hs
      refine EL_nil ?_
      obtain rfl := sinj h
      exact hQ _ _ ⟨tB, hfr, i6, z2, m8, j6, u2_1_198, i7, z3, u3_1_198, x6, rfl⟩
     ·refine E_cf c8 rfl ?_
      refine E_skip ?_
      obtain rfl := sinj h
      exact hQ _ _ ⟨q8, hfr, i6, z2, m8, j6, u2_1_198, i7, z3, u3_1_198, x6, rfl⟩
    ·clear hx
     obtain ⟨l9, hfr, n9, i3, o9, j3, u2_1_331, j7, d3, u3_1_331, t9, u9⟩ := hR
     refine E_region (EL_p (fPtr p7 1) (P_fieldAddr at_28_1 j7 (OB.ptr d3)) rfl ?_)
     refine EL_do .plain rfl (D_loadFS (g := l9) part_TieHarness_1.1 Try.isAgg26 Try.sizeOf26 rfl d3 u3_1_331 fun iD r8 o333 => ?_)
     refine EL_mv u9 rfl ?_
     refine EL_do .plain rfl (D_buildSlice (g := l9) 3044 (xs := ([i5] : List Int)) (vs := [.int .i64 (i5)]) Try.underlying26 Try.sizeOf3 Try.zeroValue3 rfl rfl (.cons rfl .nil) (RVs.cons (RV_int.2 rfl) RVs.nil) rfl rfl fun vB jD kD hs o334 xB hxt hfl => ?_)
     have hfr := hfr.stp hs
     have i3 := i3.stp hs
     have u2_1_331 := u2_1_331.stp hs rfl
     have j3 := j3.stp hs rfl
     have d3 := d3.stp hs rfl
     have r8 := r8.stp hs
     have o333 := o333.stp hs rfl
     obtain ⟨o8, aB, h⟩ := bsome h
     refine EL_do .plain rfl (D_append (g := vB) (i := 60301) Try.underlying26 info_3 rfl rfl o333 r8 rfl xB aB fun yB lD mD hs o335 y9 _ => ?_)
     have hfr := hfr.stp hs
     have i3 := i3.stp hs
     have u2_1_331 := u2_1_331.stp hs rfl
     have j3 := j3.stp hs rfl
     have d3 := d3.stp hs rfl
     refine EL_p (fPtr p7 1) (P_fieldAddr at_28_1 j7 (OB.ptr d3)) rfl ?_
     refine EL_do .plain rfl (D_storeFc (g := yB) part_TieHarness_1 Try.sizeOf26 rfl d3 rfl y9 fun zB nD hs b338 rst hos => ?_)
     have z9 := hos _ _ 60301 3 (o8 : List Int) (rv_cells1 y9) rfl o335
     clear rst hos
     have hfr := hfr.stp hs
     have i3 := i3.stp hs
     have u2_1_331 := u2_1_331.stp hs rfl
     have j3 := j3.stp hs rfl
     refine EL_nil (blk_n ?_)
     obtain rfl := sinj h
     exact hQ _ _ ⟨zB, hfr, n9, i3, o9, j3, u2_1_331, j7, b338, z9, t9⟩
   ·clear hx
    obtain ⟨aC, hfr, bA, gA, iA, jA, u2_1_339, kA, lA, u3_1_339, mA⟩ := hR
    refine E_region (EL_mv mA rfl ?_)
    refine EL_in (.int .i64 ((w64 (o0 + (1 : Int))))) rfl rfl rfl rfl ?_
    refine EL_at (.int .i64 ((w64 (o0 + (1 : Int))))) rfl rfl ?_
    exact EL_nil (thn_n (rA (l5, (w64 (o0 + (1 : Int)))) _ _ ⟨aC, hfr, bA, gA, iA, jA, u2_1_339, kA, lA, u3_1_339, rfl⟩ h))
 ·clear hx
  obtain ⟨nA, hfr, n8, oA, u2_1_340, pA, qA, u3_1_340⟩ := hR
  refine E_seq (E_region (EL_do .plain rfl (D_loadO (g := nA) Try.isAgg28 Try.sizeOf28 pA qA fun cC dC => ?_)))
  refine EL_do .plain rfl (D_storeOc (g := nA) (v := cC) Try.sizeOf28 n8 oA rfl dC fun oD sD hs b342 cb => ?_)
  clear cb
  have hfr := hfr.stp hs
  refine EL_nil (thn_n (E_ret ?_))
  obtain rfl := sinj h
  obtain ⟨ad343, cv343, hp343, bB, cr343⟩ := ob_read Try.isAgg28 Try.sizeOf28 b342
  exact endm_c rfl rfl ((show _ = p2 from n8).trans hp343) bB ⟨_, hfr, cr343⟩
def f31 (x0 : Loom) : Option (Design) :=
 (rem64 (((x0).Hooks).toNat : Int) (12 : Int)).bind fun y5 =>
 Option.bind (α := Design) (
  lp (σ := Design × Int) (fun sA (z2, o0) =>
   jn (σ := Unit) (fun _ =>
    Option.bind (α := Design) (
     Option.bind (α := Int) (
      bif (decide (o0 < (((x0).Rows).length : Int))) then
       (idx ((x0).Rows) o0).bind fun c7 =>
       some (((c7).toNat : Int))
      else
       some ((21 : Int))
      ) fun j3 =>
     (shl64 (1 : Int) (wu64 (z2).Hooks)).bind fun y161 =>
     (apnd 8 ((z2).Rows) (([(bit64 .and j3 (w64 (y161 - (1 : Int))))] : List Int))).bind fun n8 =>
     some ({ z2 with Rows := n8 })
     ) fun z4 =>
    sA (z4, (w64 (o0 + (1 : Int))))
    ) fun v8 =>
   Option.bind (α := Bool) (
    bif (o0 == (0 : Int)) then
     some (true)
    else
     bif (decide (o0 < (((x0).Rows).length : Int))) then
      some ((decide (o0 < (10 : Int))))
     else
      some (false)
    ) fun o3 =>
   bif o3 then
    v8 ()
   else
    some (z2)
   ) big ((⟨(w64 ((1 : Int) + y5)), []⟩ : Design), (0 : Int))
  ) fun l5 =>
 some (l5)
theorem en31 : Enters Try.prog 31 := enters_of Try.func31 (by kernel_rfl) rfl
theorem wk31 {gI : Gh} {wI : World} {x0 : Loom} {up0 : Value} (rp0 : RV gI.m wI x0 up0) {r : Design} (h : f31 x0 = some r) : Fn Try.prog 31 #[up0] gI wI (fun m w v => RV m w (r) v) := by
 unfold f31 at h
 refine fn_of_E Try.func31 rfl (Nat.le_of_ble_eq_true rfl) fun g0 hm hfr => ?_
 have rp0 : RV g0.m wI x0 up0 := hm ▸ rp0
 show E _ 51 none _ _ _ _ _
 refine E_seq (E_region (EL_do .plain rfl (D_box (g := g0) rfl rp0 fun g1 w1 p1 hs q1 => ?_)))
 have hfr := hfr.ext hs
 refine EL_do .plain rfl (D_allocOc (g := g1) 2002 (⟨0, []⟩ : Design) Try.zeroValue30 (fun m w => ⟨_, (rep_two rep_int rep_nil), rfl⟩) fun g2 w2 p2 hs b2 cb => ?_)
 have hfr := hfr.stp hs
 have q1 := q1.stp hs
 have x6 : OSF 2002 60201 1 g2 w2 3 30 ([] : List Int) p2 := cb.osf (by rfl)
 clear cb
 refine EL_nil (thn_n (E_seq (E_region (EL_p (fPtr p1 0) (P_fieldAddr at_25_0 rfl (PT.ptr q1)) rfl ?_))))
 have q3 := PT_field (part_Loom_0).1 q1
 refine EL_do .plain rfl (D_load (g := g2) Try.isAgg5 Try.sizeOf5 rfl q3 fun v4 r4 => ?_)
 obtain rfl := RV_u8.1 r4
 refine EL_p (.int .i64 ((((x0).Hooks).toNat : Int))) (P_u8int Try.underlying5 Try.underlying3 rfl) rfl ?_
 obtain ⟨y5, hy5, h⟩ := bsome h
 refine EL_p (.int .i64 (y5)) (P_int rfl rfl (congrArg (Option.map (Value.int .i64)) hy5)) rfl ?_
 refine EL_in (.int .i64 ((w64 ((1 : Int) + y5)))) rfl rfl rfl rfl ?_
 have r6 : RV g2.m w2 (⟨(w64 ((1 : Int) + y5)), []⟩ : Design) (.agg (setCh [[.int .i64 0], [.slice none 0 0]] [(0, .int .i64 ((w64 ((1 : Int) + y5))))]).flatten.toArray) := RV_build rfl (rep_pair (rfl) (rep_last (rep_nil)))
 generalize uA : (Value.agg (setCh [[.int .i64 0], [.slice none 0 0]] [(0, .int .i64 ((w64 ((1 : Int) + y5))))]).flatten.toArray) = v6 at r6
 refine EL_p v6 (uA ▸ P_build (vs := [(0, .int .i64 ((w64 ((1 : Int) + y5))))]) [[.int .i64 0], [.slice none 0 0]] lay_30 rfl rfl (.cons rfl .nil) ⟨⟨_, rfl, rfl⟩, trivial⟩) rfl ?_
 refine EL_do .plain rfl (D_allocOc (g := g2) 2003 (⟨0, []⟩ : Design) Try.zeroValue30 (fun m w => ⟨_, (rep_two rep_int rep_nil), rfl⟩) fun g7 w7 p7 hs b7 cb => ?_)
 have hfr := hfr.stp hs
 have q1 := q1.stp hs
 have x6 := x6.stp hs rfl
 have b2 := b2.stp hs rfl
 have r6 := r6.stp hs
 have eC : OSF 2003 60301 1 g7 w7 3 30 ([] : List Int) p7 := cb.osf (by rfl)
 clear cb
 refine EL_do .plain rfl (D_storeOc (g := g7) (v := v6) Try.sizeOf30 rfl b7 rfl r6 fun g8 w8 hs b8 cb => ?_)
 have xA : OSF 2003 60301 1 g8 w8 3 30 ([] : List Int) p7 := cb.osf (by rw [← uA]; rfl)
 clear cb
 have hfr := hfr.stp hs
 have q1 := q1.stp hs
 have x6 := x6.stp hs rfl
 have b2 := b2.stp hs rfl
 refine EL_nil (thn_n ?_)
 obtain ⟨l5, hx, h⟩ := bsome h
 refine E_join (fun e w => ∃ (g : Gh) , Fr gI wI g w ∧ e 2 = p2 ∧ OB 2002 g w 30 ((⟨0, []⟩ : Design) : Design) p2 ∧ OSF 2002 60201 1 g w 3 30 (((⟨0, []⟩ : Design)).Rows) p2 ∧ e 3 = p7 ∧ OB 2003 g w 30 (l5 : Design) p7 ∧ OSF 2003 60301 1 g w 3 30 ((l5).Rows) p7) (fun Q' hQ => ?_) (fun yB iC hR => ?_)
 ·replace h := hx
  clear hx
  refine E_seq (E_region (EL_at (.int .i64 (0)) rfl rfl ?_))
  refine EL_nil (thn_n (E_block ?_))
  refine E_lp h (fun (s : Design × Int) e w => ∃ (g : Gh) , Fr gI wI g w ∧ e 1 = p1 ∧ PT g.m w (x0 : Loom) p1 ∧ e 2 = p2 ∧ OB 2002 g w 30 ((⟨0, []⟩ : Design) : Design) p2 ∧ OSF 2002 60201 1 g w 3 30 (((⟨0, []⟩ : Design)).Rows) p2 ∧ e 3 = p7 ∧ OB 2003 g w 30 (s.1 : Design) p7 ∧ OSF 2003 60301 1 g w 3 30 ((s.1).Rows) p7 ∧ e 4 = .int .i64 (s.2)) ⟨g8, hfr, rfl, q1, rfl, b2, x6, rfl, b8, xA, rfl⟩ (fun X89 sA yA => ?_)
  rintro ⟨z2, o0⟩ jC jD ⟨r8, hfr, j6, q5, d7, e7, u2_1_90, i7, j7, u3_1_90, i5⟩ h
  refine E_joinC h (fun (s : Unit) e w => ∃ (g : Gh) , Fr gI wI g w ∧ e 1 = p1 ∧ PT g.m w (x0 : Loom) p1 ∧ e 2 = p2 ∧ OB 2002 g w 30 ((⟨0, []⟩ : Design) : Design) p2 ∧ OSF 2002 60201 1 g w 3 30 (((⟨0, []⟩ : Design)).Rows) p2 ∧ e 3 = p7 ∧ OB 2003 g w 30 (z2 : Design) p7 ∧ OSF 2003 60301 1 g w 3 30 ((z2).Rows) p7 ∧ e 4 = .int .i64 (o0)) (fun X101 v8 oA h => ?_) ?_
  ·obtain ⟨o3, hx, h⟩ := bsome h
   refine E_join (fun e w => ∃ (g : Gh) , Fr gI wI g w ∧ e 1 = p1 ∧ PT g.m w (x0 : Loom) p1 ∧ e 2 = p2 ∧ OB 2002 g w 30 ((⟨0, []⟩ : Design) : Design) p2 ∧ OSF 2002 60201 1 g w 3 30 (((⟨0, []⟩ : Design)).Rows) p2 ∧ e 3 = p7 ∧ OB 2003 g w 30 (z2 : Design) p7 ∧ OSF 2003 60301 1 g w 3 30 ((z2).Rows) p7 ∧ e 4 = .int .i64 (o0) ∧ e 24 = .bool (o3)) (fun Q' hQ => ?_) (fun zB kC hR => ?_)
   ·replace h := hx
    clear hx
    refine E_region (EL_mv i5 rfl ?_)
    refine EL_in (.bool ((o0 == (0 : Int)))) rfl rfl rfl rfl ?_
    refine EL_mw (.bool ((o0 == (0 : Int)))) rfl rfl ?_
    rcases csome h with ⟨u0, h⟩ | ⟨u0, h⟩
    ·refine EL_s rfl rfl u0 rfl rfl ?_
     iterate 5 refine EL_s rfl rfl u0 rfl rfl ?_
     refine EL_skip (.off rfl rfl) rfl ?_
     refine EL_skip (.off rfl rfl) rfl ?_
     refine EL_s rfl rfl u0 rfl rfl ?_
     refine EL_p (.bool true) (P_pick (b := (o0 == (0 : Int))) rfl (pick_t u0 rfl)) rfl ?_
     refine EL_nil ?_
     obtain rfl := sinj h
     exact hQ _ _ ⟨r8, hfr, j6, q5, d7, e7, u2_1_90, i7, j7, u3_1_90, i5, rfl⟩
    ·refine EL_y (.int .i64 (o0)) (P_move i5) rfl rfl u0 rfl ?_
     refine EL_y (fPtr p1 2) (P_fieldAddr at_25_2 j6 (PT.ptr q5)) rfl rfl u0 rfl ?_
     have zA := PT_field (part_Loom_2).1 q5
     refine EL_do (.yes2 rfl rfl u0) rfl (D_load (g := r8) Try.isAgg23 Try.sizeOf23 rfl zA fun lC aB => ?_)
     refine EL_y (.int .i64 (((x0).Rows).length : Int)) (P_len Try.underlying23 rfl aB) rfl rfl u0 rfl ?_
     refine EL_y (.bool ((decide (o0 < (((x0).Rows).length : Int))))) (P_int rfl rfl rfl) rfl rfl u0 rfl ?_
     refine EL_y (.bool ((decide (o0 < (((x0).Rows).length : Int))))) (P_move rfl) rfl rfl u0 rfl ?_
     rcases csome h with ⟨z3, h⟩ | ⟨z3, h⟩
     ·refine EL_y (.int .i64 (o0)) (P_move i5) rfl rfl z3 rfl ?_
      refine EL_y (.bool ((decide (o0 < (10 : Int))))) (P_int rfl rfl rfl) rfl rfl z3 rfl ?_
      refine EL_y (.bool ((decide (o0 < (10 : Int))))) (P_pick (b := (decide (o0 < (((x0).Rows).length : Int)))) rfl (pick_t z3 rfl)) rfl rfl u0 rfl ?_
      refine EL_p (.bool ((decide (o0 < (10 : Int))))) (P_pick (b := (o0 == (0 : Int))) rfl (pick_f u0 rfl)) rfl ?_
      refine EL_nil ?_
      obtain rfl := sinj h
      exact hQ _ _ ⟨r8, hfr, j6, q5, d7, e7, u2_1_90, i7, j7, u3_1_90, i5, rfl⟩
     ·refine EL_s rfl rfl z3 rfl rfl ?_
      refine EL_s rfl rfl z3 rfl rfl ?_
      refine EL_y (.bool false) (P_pick (b := (decide (o0 < (((x0).Rows).length : Int)))) rfl (pick_f z3 rfl)) rfl rfl u0 rfl ?_
      refine EL_p (.bool false) (P_pick (b := (o0 == (0 : Int))) rfl (pick_f u0 rfl)) rfl ?_
      refine EL_nil ?_
      obtain rfl := sinj h
      exact hQ _ _ ⟨r8, hfr, j6, q5, d7, e7, u2_1_90, i7, j7, u3_1_90, i5, rfl⟩
   ·clear hx
    obtain ⟨x8, hfr, y8, a9, o7, u7, u2_1_110, v7, c8, u3_1_110, d9, a7⟩ := hR
    rcases csome h with ⟨m7, h⟩ | ⟨m7, h⟩
    ·refine E_cond_true (Eq.trans (show ev _ _ = .bool (o3) from a7) (congrArg Value.bool m7)) ?_
     exact E_skip (thn_n (oA () _ _ ⟨x8, hfr, y8, a9, o7, u7, u2_1_110, v7, c8, u3_1_110, d9⟩ h))
    ·refine E_cond_false (Eq.trans (show ev _ _ = .bool (o3) from a7) (congrArg Value.bool m7)) ?_
     refine E_exit ?_
     refine thn_e ?_
     refine thn_e ?_
     refine blk_hit ?_
     obtain rfl := sinj h
     exact hQ _ _ ⟨x8, hfr, o7, u7, u2_1_110, v7, c8, u3_1_110⟩
  ·rintro _ aC mC ⟨y6, hfr, t5, u3, e8, i8, u2_1_112, k8, l8, u3_1_112, x5⟩ h
   obtain ⟨z4, hx, h⟩ := bsome h
   refine E_join (fun e w => ∃ (g : Gh) , Fr gI wI g w ∧ e 1 = p1 ∧ PT g.m w (x0 : Loom) p1 ∧ e 2 = p2 ∧ OB 2002 g w 30 ((⟨0, []⟩ : Design) : Design) p2 ∧ OSF 2002 60201 1 g w 3 30 (((⟨0, []⟩ : Design)).Rows) p2 ∧ e 3 = p7 ∧ OB 2003 g w 30 (z4 : Design) p7 ∧ OSF 2003 60301 1 g w 3 30 ((z4).Rows) p7 ∧ e 4 = .int .i64 (o0)) (fun Q' hQ => ?_) (fun cC qC hR => ?_)
   ·replace h := hx
    clear hx
    refine E_block ?_
    refine E_seq (E_region (EL_at (.int .i64 (21)) rfl rfl ?_))
    refine EL_nil (thn_n ?_)
    obtain ⟨j3, hx, h⟩ := bsome h
    refine E_join (fun e w => ∃ (g : Gh) , Fr gI wI g w ∧ e 1 = p1 ∧ PT g.m w (x0 : Loom) p1 ∧ e 2 = p2 ∧ OB 2002 g w 30 ((⟨0, []⟩ : Design) : Design) p2 ∧ OSF 2002 60201 1 g w 3 30 (((⟨0, []⟩ : Design)).Rows) p2 ∧ e 3 = p7 ∧ OB 2003 g w 30 (z2 : Design) p7 ∧ OSF 2003 60301 1 g w 3 30 ((z2).Rows) p7 ∧ e 4 = .int .i64 (o0) ∧ e 5 = .int .i64 (j3)) (fun Q' hQ => ?_) (fun dC rC hR => ?_)
    ·replace h := hx
     clear hx
     refine E_seq (E_region (EL_mv x5 rfl ?_))
     refine EL_p (fPtr p1 2) (P_fieldAddr at_25_2 t5 (PT.ptr u3)) rfl ?_
     have bB := PT_field (part_Loom_2).1 u3
     refine EL_do .plain rfl (D_load (g := y6) Try.isAgg23 Try.sizeOf23 rfl bB fun tC cB => ?_)
     refine EL_p (.int .i64 (((x0).Rows).length : Int)) (P_len Try.underlying23 rfl cB) rfl ?_
     refine EL_p (.bool ((decide (o0 < (((x0).Rows).length : Int))))) (P_int rfl rfl rfl) rfl ?_
     refine EL_nil (thn_n ?_)
     rcases csome h with ⟨n7, h⟩ | ⟨n7, h⟩
     ·refine E_ct n7 rfl ?_
      refine E_region (EL_p (fPtr p1 2) (P_fieldAddr at_25_2 t5 (PT.ptr u3)) rfl ?_)
      have dB := PT_field (part_Loom_2).1 u3
      refine EL_do .plain rfl (D_load (g := y6) Try.isAgg23 Try.sizeOf23 rfl dB fun eB e9 => ?_)
      refine EL_mv x5 rfl ?_
      obtain ⟨c7, t8, h⟩ := bsome h
      refine EL_p (ePtr eB o0 1) (P_indexAddr (α := UInt16) Try.underlying23 Try.sizeOf165 rfl e9 rfl t8) rfl ?_
      have iB := PT_idx e9 t8
      refine EL_do .plain rfl (D_load (g := y6) Try.isAgg165 Try.sizeOf165 rfl iB fun uC jB => ?_)
      obtain rfl := RV_u16.1 jB
      refine EL_p (.int .i64 (((c7).toNat : Int))) (P_u16int Try.underlying165 Try.underlying3 rfl) rfl ?_
      refine EL_at (.int .i64 (((c7).toNat : Int))) rfl rfl ?_
      refine EL_nil ?_
      obtain rfl := sinj h
      exact hQ _ _ ⟨y6, hfr, t5, u3, e8, i8, u2_1_112, k8, l8, u3_1_112, x5, rfl⟩
     ·refine E_cf n7 rfl ?_
      refine E_skip ?_
      obtain rfl := sinj h
      exact hQ _ _ ⟨y6, hfr, t5, u3, e8, i8, u2_1_112, k8, l8, u3_1_112, x5, rfl⟩
    ·clear hx
     obtain ⟨o8, hfr, i9, d3, k9, i3, u2_1_156, i6, j1, u3_1_156, l9, n9⟩ := hR
     refine E_region (EL_p (fPtr p7 1) (P_fieldAddr at_30_1 i6 (OB.ptr j1)) rfl ?_)
     refine EL_do .plain rfl (D_loadFS (g := o8) part_Design_1.1 Try.isAgg26 Try.sizeOf26 rfl j1 u3_1_156 fun vC q8 o158 => ?_)
     refine EL_mv n9 rfl ?_
     refine EL_p (fPtr p7 0) (P_fieldAddr at_30_0 i6 (OB.ptr j1)) rfl ?_
     refine EL_do .plain rfl (D_loadF (g := o8) part_Design_0.1 Try.isAgg3 Try.sizeOf3 rfl j1 fun xC kB => ?_)
     obtain rfl := RV_int.1 kB
     refine EL_p (.int .u64 (wu64 (z2).Hooks)) (P_intu64 Try.underlying3 Try.underlying72 rfl) rfl ?_
     obtain ⟨y161, pA, h⟩ := bsome h
     refine EL_p (.int .i64 (y161)) (P_shlu rfl rfl pA) rfl ?_
     refine EL_in (.int .i64 ((w64 (y161 - (1 : Int))))) rfl rfl rfl rfl ?_
     refine EL_in (.int .i64 ((bit64 .and j3 (w64 (y161 - (1 : Int)))))) rfl rfl rfl rfl ?_
     refine EL_do .plain rfl (D_buildSlice (g := o8) 3047 (xs := ([(bit64 .and j3 (w64 (y161 - (1 : Int))))] : List Int)) (vs := [.int .i64 ((bit64 .and j3 (w64 (y161 - (1 : Int)))))]) Try.underlying26 Try.sizeOf3 Try.zeroValue3 rfl rfl (.cons rfl .nil) (RVs.cons (RV_int.2 rfl) RVs.nil) rfl rfl fun lB yC aD hs o162 mB hxt hfl => ?_)
     have hfr := hfr.stp hs
     have d3 := d3.stp hs
     have u2_1_156 := u2_1_156.stp hs rfl
     have i3 := i3.stp hs rfl
     have j1 := j1.stp hs rfl
     have q8 := q8.stp hs
     have o158 := o158.stp hs rfl
     obtain ⟨n8, qA, h⟩ := bsome h
     refine EL_do .plain rfl (D_append (g := lB) (i := 60301) Try.underlying26 info_3 rfl rfl o158 q8 rfl mB qA fun nB bD cD hs o163 o9 _ => ?_)
     have hfr := hfr.stp hs
     have d3 := d3.stp hs
     have u2_1_156 := u2_1_156.stp hs rfl
     have i3 := i3.stp hs rfl
     have j1 := j1.stp hs rfl
     refine EL_p (fPtr p7 1) (P_fieldAddr at_30_1 i6 (OB.ptr j1)) rfl ?_
     refine EL_do .plain rfl (D_storeFc (g := nB) part_Design_1 Try.sizeOf26 rfl j1 rfl o9 fun oB eD hs b166 rst hos => ?_)
     have t9 := hos _ _ 60301 3 (n8 : List Int) (rv_cells1 o9) rfl o163
     clear rst hos
     have hfr := hfr.stp hs
     have d3 := d3.stp hs
     have u2_1_156 := u2_1_156.stp hs rfl
     have i3 := i3.stp hs rfl
     refine EL_nil (blk_n ?_)
     obtain rfl := sinj h
     exact hQ _ _ ⟨oB, hfr, i9, d3, k9, i3, u2_1_156, i6, b166, t9, l9⟩
   ·clear hx
    obtain ⟨tB, hfr, u9, y9, z9, bA, u2_1_167, gA, iA, u3_1_167, jA⟩ := hR
    refine E_region (EL_mv jA rfl ?_)
    refine EL_in (.int .i64 ((w64 (o0 + (1 : Int))))) rfl rfl rfl rfl ?_
    refine EL_at (.int .i64 ((w64 (o0 + (1 : Int))))) rfl rfl ?_
    exact EL_nil (thn_n (yA (z4, (w64 (o0 + (1 : Int)))) _ _ ⟨tB, hfr, u9, y9, z9, bA, u2_1_167, gA, iA, u3_1_167, rfl⟩ h))
 ·clear hx
  obtain ⟨kA, hfr, m8, lA, u2_1_168, mA, nA, u3_1_168⟩ := hR
  refine E_seq (E_region (EL_do .plain rfl (D_loadO (g := kA) Try.isAgg30 Try.sizeOf30 mA nA fun vB xB => ?_)))
  refine EL_do .plain rfl (D_storeOc (g := kA) (v := vB) Try.sizeOf30 m8 lA rfl xB fun gD iD hs b170 cb => ?_)
  clear cb
  have hfr := hfr.stp hs
  refine EL_nil (thn_n (E_ret ?_))
  obtain rfl := sinj h
  obtain ⟨ad171, cv171, hp171, rA, cr171⟩ := ob_read Try.isAgg30 Try.sizeOf30 b170
  exact endm_c rfl rfl ((show _ = p2 from m8).trans hp171) rA ⟨_, hfr, cr171⟩
theorem v54_0 {iO : Nat} {gI : Gh} {wI : World} {x0 : List Int} {up0 : Value} (rp0 : RV gI.m wI x0 up0) {r : List Int} (h : f54 x0 = some r) : FnG Try.prog 54 #[up0] gI wI (fun g w v => OM iO g w 3 r v) := by
 unfold f54 at h
 refine fnG_of_E Try.func54 rfl (Nat.le_of_ble_eq_true rfl) fun g0 hm hfr => ?_
 have rp0 : RV g0.m wI x0 up0 := hm ▸ rp0
 show E _ 8 none _ _ _ _ _
 refine E_seq (E_region (EL_at (.slice none 0 0) rfl rfl (EL_nil (thn_n ?_))))
 refine E_seq (E_seq (E_region (EL_mw up0 rfl rfl ?_)))
 obtain ⟨a, c, hv, hc, hrow⟩ := RV_list rp0
 refine EL_p (.bool a.isNone) (P_slnil Try.underlying26 (show ev _ _ = _ from hv)) rfl (EL_nil (thn_n ?_))
 cases a with
 | none =>
  have hx : x0 = [] := by
   cases x0 with
   | nil => rfl
   | cons y ys => obtain ⟨b, off, hb, _⟩ := hrow (by simp); cases hb
  subst hx
  have hr : r = [] := by unfold apnd at h; split at h <;> simp at h; exact h
  subst hr
  refine E_cond_true rfl (E_seq (E_region ?_))
  refine EL_at (.slice none 0 0) rfl rfl (EL_nil (thn_n ?_))
  obtain ⟨gh, hxh, homh⟩ := OM.handn (i := iO) (t := 3) (α := Int) hfr; exact E_ret (thn_r (end1 rfl rfl (show _ = .slice none 0 0 from rfl) ⟨gh, hxh, homh⟩))
 | some a =>
  refine E_cond_false rfl (E_skip (thn_n ?_))
  refine E_seq (E_region (EL_do .plain rfl (D_buildSlice (g := g0) 1 (xs := ([] : List Int)) (vs := []) Try.underlying26 Try.sizeOf3 Try.zeroValue3 rfl rfl .nil RVs.nil rfl rfl fun g1 w1 v1 hs o1 r1 hxt hfl => ?_)))
  have hfr := hfr.stp hs
  have rp0 := rp0.stp hs
  refine EL_mw up0 rfl rfl ?_
  refine EL_do .plain rfl (D_append (g := g1) (i := 1) Try.underlying26 info_3 rfl rfl o1 r1 rfl rp0 h fun g2 w2 v2 hs o2 r2 _ => ?_)
  have hfr := hfr.stp hs
  refine EL_at v2 rfl rfl (EL_nil (thn_n ?_))
  obtain ⟨gh, hxh, homh⟩ := OM.hand (i := iO) plain_int hfr o2 r2; exact E_ret (end1 rfl rfl (show _ = v2 from rfl) ⟨gh, hxh, homh⟩)
def f63 (x0 : Int) (x1 : Int) : Option (Span) :=
 some ((⟨x0, x1⟩ : Span))
theorem en63 : Enters Try.prog 63 := enters_of Try.func63 (by kernel_rfl) rfl
theorem wk63 {gI : Gh} {wI : World} {x0 : Int} {x1 : Int}  {r : Span} (h : f63 x0 x1 = some r) : Fn Try.prog 63 #[.int .i64 (x0), .int .i64 (x1)] gI wI (fun m w v => RV m w (r) v) := by
 unfold f63 at h
 refine fn_of_E Try.func63 rfl (Nat.le_of_ble_eq_true rfl) fun g0 hm hfr => ?_
 show E _ 8 none _ _ _ _ _
 refine E_seq (E_region (EL_do .plain rfl (D_allocOc (g := g0) 2004 (⟨0, 0⟩ : Span) Try.zeroValue137 (fun m w => ⟨_, (rep_two rep_int rep_int), rfl⟩) fun g1 w1 p1 hs b1 cb => ?_)))
 have hfr := hfr.stp hs
 clear cb
 refine EL_nil (thn_n (E_seq (E_region (EL_mw (.int .i64 (x0)) rfl rfl ?_))))
 refine EL_mw (.int .i64 (x1)) rfl rfl ?_
 have r2 : RV g1.m w1 (⟨x0, x1⟩ : Span) (.agg (setCh [[.int .i64 0], [.int .i64 0]] [(0, .int .i64 (x0)), (1, .int .i64 (x1))]).flatten.toArray) := RV_build rfl (rep_pair (rfl) (rep_last (rfl)))
 generalize hv2 : (Value.agg (setCh [[.int .i64 0], [.int .i64 0]] [(0, .int .i64 (x0)), (1, .int .i64 (x1))]).flatten.toArray) = v2 at r2
 refine EL_p v2 (hv2 ▸ P_build (vs := [(0, .int .i64 (x0)), (1, .int .i64 (x1))]) [[.int .i64 0], [.int .i64 0]] lay_137 rfl rfl (.cons rfl (.cons rfl .nil)) ⟨⟨_, rfl, rfl⟩, ⟨⟨_, rfl, rfl⟩, trivial⟩⟩) rfl ?_
 refine EL_do .plain rfl (D_storeOc (g := g1) (v := v2) Try.sizeOf137 rfl b1 rfl r2 fun g3 w3 hs b3 cb => ?_)
 clear cb
 have hfr := hfr.stp hs
 refine EL_nil (thn_n (E_ret ?_))
 obtain rfl := sinj h
 obtain ⟨ad4, cv4, hp4, o0, cr4⟩ := ob_read Try.isAgg137 Try.sizeOf137 b3
 exact endm_c rfl rfl ((show _ = p1 from rfl).trans hp4) o0 ⟨_, hfr, cr4⟩
def f89 (x0 : Int) : Option (Int) :=
 jn (σ := Unit) (fun _ =>
  some ((0 : Int))
  ) fun k3 =>
 bif (x0 == (2 : Int)) then
  some ((1 : Int))
 else
  bif (x0 == (5 : Int)) then
   some ((2 : Int))
  else
   k3 ()
theorem en89 : Enters Try.prog 89 := enters_of Try.func89 (by kernel_rfl) rfl
theorem wk89 {gI : Gh} {wI : World} {x0 : Int}  {r : Int} (h : f89 x0 = some r) : Fn Try.prog 89 #[.int .i64 (x0)] gI wI (fun _ _ v => v = .int .i64 (r)) := by
 unfold f89 at h
 refine fn_of_E Try.func89 rfl (Nat.le_of_ble_eq_true rfl) fun g0 hm hfr => ?_
 show E _ 8 none _ _ _ _ _
 refine E_seq (E_region (EL_at (.int .i64 (0)) rfl rfl ?_))
 refine EL_nil (thn_n (E_joinC h (fun (s : Unit) e w => ∃ (g : Gh) , Fr gI wI g w) (fun X3 k3 hk3 h => ?_) ?_))
 ·refine E_seq (E_region (EL_mw (.int .i64 (x0)) rfl rfl ?_))
  refine EL_nil (thn_n (E_block ?_))
  refine E_seq (E_region (EL_in (.bool ((x0 == (2 : Int)))) rfl rfl rfl rfl ?_))
  refine EL_at (.bool ((x0 == (2 : Int)))) rfl rfl ?_
  refine EL_nil (thn_n ?_)
  rcases csome h with ⟨o0, h⟩ | ⟨o0, h⟩
  ·refine E_ct o0 rfl ?_
   refine E_seq (E_region (EL_at (.int .i64 (1)) rfl rfl ?_))
   refine EL_nil (thn_n (E_ret (blk_r ?_)))
   refine thn_r ?_
   obtain rfl := sinj h
   exact end1 rfl rfl (show _ = .int .i64 (1) from rfl) ⟨_, hfr, rfl⟩
  ·refine E_cf o0 rfl ?_
   refine E_seq (E_region (EL_in (.bool ((x0 == (5 : Int)))) rfl rfl rfl rfl ?_))
   refine EL_at (.bool ((x0 == (5 : Int)))) rfl rfl ?_
   refine EL_nil (thn_n ?_)
   rcases csome h with ⟨hc5, h⟩ | ⟨hc5, h⟩
   ·refine E_ct hc5 rfl ?_
    refine E_seq (E_region (EL_at (.int .i64 (2)) rfl rfl ?_))
    refine EL_nil (thn_n (E_ret (blk_r ?_)))
    refine thn_r ?_
    obtain rfl := sinj h
    exact end1 rfl rfl (show _ = .int .i64 (2) from rfl) ⟨_, hfr, rfl⟩
   ·refine E_cf hc5 rfl ?_
    exact E_skip (blk_n (thn_n (hk3 () _ _ ⟨g0, hfr⟩ h)))
 ·rintro _ u0 w6 ⟨g6, hfr⟩ h
  refine E_seq (E_region (EL_at (.int .i64 (0)) rfl rfl ?_))
  refine EL_nil (thn_n (E_ret ?_))
  obtain rfl := sinj h
  exact end1 rfl rfl (show _ = .int .i64 (0) from rfl) ⟨_, hfr, rfl⟩
def f93 (x0 : List FaultSight) (x1 : FaultSight → Option Bool) : Option (Int) :=
 jn (σ := Unit) (fun _ =>
  some ((-1 : Int))
  ) fun k18 =>
 lp (σ := Int) (fun k19 o0 =>
  bif (decide (o0 < ((x0).length : Int))) then
   jn (σ := Unit) (fun _ =>
    k19 ((w64 (o0 + (1 : Int))))
    ) fun k28 =>
   (idx x0 o0).bind fun x5 =>
   (x1 x5).bind fun i6 =>
   bif i6 then
    some (o0)
   else
    k28 ()
  else
   k18 ()
  ) big ((0 : Int))
theorem en93 : Enters Try.prog 93 := enters_of Try.func93 (by kernel_rfl) rfl
theorem wk93 {gI : Gh} {wI : World} {x0 : List FaultSight} {x1 : FaultSight → Option Bool} {up0 : Value} (rp0 : RV gI.m wI x0 up0) {up1 : Value} (rp1 : FnV1 Try.prog x1 up1 gI wI) {r : Int} (h : f93 x0 x1 = some r) : Fn Try.prog 93 #[up0, up1] gI wI (fun _ _ v => v = .int .i64 (r)) := by
 unfold f93 at h
 refine fn_of_E Try.func93 rfl (Nat.le_of_ble_eq_true rfl) fun g0 hm hfr => ?_
 have rp0 : RV g0.m wI x0 up0 := hm ▸ rp0
 obtain ⟨ff1, fa1, fc1, rfl, fen1, fcl1⟩ := rp1
 show E _ 19 none _ _ _ _ _
 refine E_seq (E_region (EL_at (.int .i64 (0)) rfl rfl ?_))
 refine EL_nil (thn_n (E_joinC h (fun (s : Unit) e w => ∃ (g : Gh) , Fr gI wI g w) (fun X18 k18 j6 h => ?_) ?_))
 ·refine E_seq (E_region (EL_mw up0 rfl rfl ?_))
  refine EL_p (.int .i64 ((x0).length : Int)) (P_len Try.underlying49 rfl rp0) rfl ?_
  refine EL_mw (.int .i64 (0)) rfl rfl ?_
  refine EL_nil (thn_n (E_block ?_))
  refine E_lp h (fun (s : Int) e w => ∃ (g : Gh) , Fr gI wI g w ∧ e 0 = up0 ∧ RV g.m w (x0 : List FaultSight) up0 ∧ e 1 = (.func (.func ff1) fa1 fc1) ∧ e 7 = .int .i64 (((x0).length : Int)) ∧ e 8 = .int .i64 (s)) ⟨g0, hfr, rfl, rp0, rfl, rfl, rfl⟩ (fun X19 k19 v6 => ?_)
  rintro o0 g7 m7 ⟨u3, hfr, i3, u0, j3, o3, j1⟩ h
  refine E_seq (E_region (EL_in (.bool ((decide (o0 < ((x0).length : Int))))) j1 o3 rfl rfl ?_))
  refine EL_nil (thn_n (E_seq ?_))
  rcases csome h with ⟨z2, h⟩ | ⟨z2, h⟩
  ·refine E_ct z2 rfl ?_
   refine E_skip (thn_n (E_joinC h (fun (s : Unit) e w => ∃ (g : Gh) , Fr gI wI g w ∧ e 0 = up0 ∧ RV g.m w (x0 : List FaultSight) up0 ∧ e 1 = (.func (.func ff1) fa1 fc1) ∧ e 7 = .int .i64 (((x0).length : Int)) ∧ e 8 = .int .i64 (o0)) (fun X28 k28 x6 h => ?_) ?_))
   ·refine E_block ?_
    refine E_seq (E_region (EL_mv j1 rfl ?_))
    refine EL_at (.int .i64 (o0)) rfl rfl ?_
    refine EL_nil (thn_n (E_seq (E_region (EL_mv j3 rfl ?_))))
    refine EL_mv i3 rfl ?_
    refine EL_mw (.int .i64 (o0)) rfl rfl ?_
    obtain ⟨x5, z3, h⟩ := bsome h
    refine EL_p (ePtr up0 o0 3) (P_indexAddr (α := FaultSight) Try.underlying49 Try.sizeOf51 rfl u0 rfl z3) rfl ?_
    have a7 := PT_idx u0 z3
    refine EL_do .plain rfl (D_load (g := u3) Try.isAgg51 Try.sizeOf51 rfl a7 fun b7 c7 => ?_)
    obtain ⟨i6, y6, h⟩ := bsome h
    refine EL_do .plain rfl (D_callv (g := u3) (vs := [b7]) rfl fen1 (.cons rfl .nil) (fcl1 _ _ hfr.ch _ _ _  c7 y6) fun d7 n7 o7 hs hr => ?_)
    have hfr := hfr.ext hs
    have u0 := u0.ext hs
    obtain rfl := RV_bool.1 hr
    refine EL_nil (thn_n ?_)
    rcases csome h with ⟨d3, h⟩ | ⟨d3, h⟩
    ·refine E_ct d3 rfl ?_
     refine E_seq (E_region (EL_mw (.int .i64 (o0)) rfl rfl ?_))
     refine EL_at (.int .i64 (o0)) rfl rfl ?_
     refine EL_nil (thn_n (E_ret (blk_r ?_)))
     refine thn_r ?_
     refine thn_r ?_
     refine blk_r ?_
     refine thn_r ?_
     obtain rfl := sinj h
     exact end1 rfl rfl (show _ = .int .i64 (o0) from rfl) ⟨_, hfr, rfl⟩
    ·refine E_cf d3 rfl ?_
     exact E_skip (blk_n (thn_n (x6 () _ _ ⟨d7, hfr, i3, u0, j3, o3, j1⟩ h)))
   ·rintro _ i7 u7 ⟨e7, hfr, z4, i5, l5, q5, t5⟩ h
    refine E_region (EL_in (.int .i64 ((w64 (o0 + (1 : Int))))) t5 rfl rfl rfl ?_)
    refine EL_mw (.int .i64 ((w64 (o0 + (1 : Int))))) rfl rfl ?_
    exact EL_nil (thn_n (v6 ((w64 (o0 + (1 : Int)))) _ _ ⟨e7, hfr, z4, i5, l5, q5, rfl⟩ h))
  ·refine E_cf z2 rfl ?_
   refine E_exit ?_
   refine thn_e ?_
   refine thn_e ?_
   refine blk_hit ?_
   exact thn_n (j6 () _ _ ⟨u3, hfr⟩ h)
 ·rintro _ j7 v7 ⟨c8, hfr⟩ h
  refine E_seq (E_region (EL_at (.int .i64 (-1)) rfl rfl ?_))
  refine EL_nil (thn_n (E_ret ?_))
  obtain rfl := sinj h
  exact end1 rfl rfl (show _ = .int .i64 (-1) from rfl) ⟨_, hfr, rfl⟩
def f95 (x0 : Int) (z0 : Int) (z1 : Int) : Option (Bool) :=
 Option.bind (α := Bool) (
  bif (decide (x0 < z0)) then
   some (true)
  else
   some ((decide (x0 > z1)))
  ) fun o0 =>
 some (o0)
theorem en95 : Enters Try.prog 95 := enters_of Try.func95 (by kernel_rfl) rfl
theorem wk95 {gI : Gh} {wI : World} {x0 : Int} {z0 : Int} {z1 : Int} {pf0 : Value} (qf0 : PT gI.m wI z0 pf0) {pf1 : Value} (qf1 : PT gI.m wI z1 pf1) {r : Bool} (h : f95 x0 z0 z1 = some r) : Fn Try.prog 95 #[.int .i64 (x0), pf0, pf1] gI wI (fun _ _ v => v = .bool (r)) := by
 unfold f95 at h
 refine fn_of_E Try.func95 rfl (Nat.le_of_ble_eq_true rfl) fun g0 hm hfr => ?_
 have qf0 : PT g0.m wI z0 pf0 := hm ▸ qf0
 have qf1 : PT g0.m wI z1 pf1 := hm ▸ qf1
 show E _ 13 none _ _ _ _ _
 refine E_seq (E_region (EL_at (.bool false) rfl rfl ?_))
 refine EL_nil (thn_n ?_)
 obtain ⟨o0, hx, h⟩ := bsome h
 refine E_join (fun e w => ∃ (g : Gh) , Fr gI wI g w ∧ e 4 = .bool (o0)) (fun Q' hQ => ?_) (fun j1 w7 hR => ?_)
 ·replace h := hx
  clear hx
  refine E_region (EL_mw (.int .i64 (x0)) rfl rfl ?_)
  refine EL_do .plain rfl (D_load (g := g0) Try.isAgg3 Try.sizeOf3 rfl qf0 fun v4 r4 => ?_)
  obtain rfl := RV_int.1 r4
  refine EL_in (.bool ((decide (x0 < z0)))) rfl rfl rfl rfl ?_
  refine EL_mw (.bool ((decide (x0 < z0)))) rfl rfl ?_
  rcases csome h with ⟨hc5, h⟩ | ⟨hc5, h⟩
  ·refine EL_s rfl rfl hc5 rfl rfl ?_
   refine EL_s rfl rfl hc5 rfl rfl ?_
   refine EL_s rfl rfl hc5 rfl rfl ?_
   refine EL_p (.bool true) (P_pick (b := (decide (x0 < z0))) rfl (pick_t hc5 rfl)) rfl ?_
   refine EL_at (.bool true) rfl rfl ?_
   refine EL_nil ?_
   obtain rfl := sinj h
   exact hQ _ _ ⟨g0, hfr, rfl⟩
  ·refine EL_y (.int .i64 (x0)) (P_move rfl) rfl rfl hc5 rfl ?_
   refine EL_do (.yes2 rfl rfl hc5) rfl (D_load (g := g0) Try.isAgg3 Try.sizeOf3 rfl qf1 fun v6 r6 => ?_)
   obtain rfl := RV_int.1 r6
   refine EL_y (.bool ((decide (x0 > z1)))) (P_int rfl rfl rfl) rfl rfl hc5 rfl ?_
   refine EL_p (.bool ((decide (x0 > z1)))) (P_pick (b := (decide (x0 < z0))) rfl (pick_f hc5 rfl)) rfl ?_
   refine EL_at (.bool ((decide (x0 > z1)))) rfl rfl ?_
   refine EL_nil ?_
   obtain rfl := sinj h
   exact hQ _ _ ⟨g0, hfr, rfl⟩
 ·clear hx
  obtain ⟨g7, hfr, u0⟩ := hR
  refine E_ret ?_
  obtain rfl := sinj h
  exact end1 rfl rfl (show _ = .bool (o0) from u0) ⟨_, hfr, rfl⟩
def f96 (x0 : FaultFaultLoom) (σ : Type) (cons : Cons σ FaultDamage) (s0 : σ) : Option σ :=
 Option.bind (α := (List FaultDamage)) (
  lp (σ := (List FaultDamage) × Int) (fun uI (o9, z2) =>
   bif (decide (z2 < (w64 ((((((x0).FaultLoom).Design).Rows).length : Int) * (((x0).FaultLoom).Design).Hooks)))) then
    Option.bind (α := (List FaultDamage)) (
     (quo64 z2 (((x0).FaultLoom).Design).Hooks).bind fun y125 =>
     (rem64 z2 (((x0).FaultLoom).Design).Hooks).bind fun u3 =>
     (apnd 40 o9 (([(⟨(1 : Int), y125, u3, 0, false⟩ : FaultDamage)] : List FaultDamage))).bind fun jD =>
     some (jD)
     ) fun t5 =>
    uI (t5, (w64 (z2 + (1 : Int))))
   else
    some (o9)
   ) big ([], (0 : Int))
  ) fun x6 =>
 Option.bind (α := (List FaultDamage)) (
  lp (σ := (List FaultDamage) × Int) (fun kD (s7_169, o0) =>
   bif (decide (o0 < (((x0).FaultLoom).Design).Hooks)) then
    Option.bind (α := (List FaultDamage)) (
     (apnd 40 s7_169 (([(⟨(2 : Int), 0, o0, 0, false⟩ : FaultDamage), (⟨(2 : Int), 0, o0, 0, true⟩ : FaultDamage)] : List FaultDamage))).bind fun y180 =>
     some (y180)
     ) fun x5 =>
    kD (x5, (w64 (o0 + (1 : Int))))
   else
    some (s7_169)
   ) big (x6, (0 : Int))
  ) fun y6 =>
 Option.bind (α := (List FaultDamage)) (
  lp (σ := (List FaultDamage) × Int) (fun lD (m8, d3) =>
   bif (decide (d3 < (2 : Int))) then
    Option.bind (α := (List FaultDamage)) (
     (idx ((⟨List.toArray [(3 : Int), (4 : Int)], rfl⟩ : Vector Int 2)).toList d3).bind fun i5 =>
     lp (σ := (List FaultDamage) × Int) (fun mD (n8, u0) =>
      bif (decide (u0 < (((((x0).FaultLoom).Design).Rows).length : Int))) then
       Option.bind (α := (List FaultDamage)) (
        (apnd 40 n8 (([(⟨i5, u0, 0, 0, false⟩ : FaultDamage)] : List FaultDamage))).bind fun nD =>
        some (nD)
        ) fun i6 =>
       mD (i6, (w64 (u0 + (1 : Int))))
      else
       some (n8)
      ) big (m8, (0 : Int))
     ) fun j6 =>
    lD (j6, (w64 (d3 + (1 : Int))))
   else
    some (m8)
   ) big (y6, (0 : Int))
  ) fun a7 =>
 Option.bind (α := (List FaultDamage)) (
  lp (σ := (List FaultDamage) × Int) (fun oD (o8, j1) =>
   bif (decide (j1 < (((((x0).FaultLoom).Harness).Warps).length : Int))) then
    Option.bind (α := (List FaultDamage)) (
     (apnd 40 o8 (([(⟨(5 : Int), 0, 0, j1, false⟩ : FaultDamage)] : List FaultDamage))).bind fun sD =>
     some (sD)
     ) fun v6 =>
    oD (v6, (w64 (j1 + (1 : Int))))
   else
    some (o8)
   ) big (a7, (0 : Int))
  ) fun i3 =>
 lp (σ := σ × Int) (fun tD (r8, j3) =>
  bif (decide (j3 < ((i3).length : Int))) then
   jn (σ := σ) (fun t8 =>
    tD (t8, (w64 (j3 + (1 : Int))))
    ) fun uD =>
   (idx i3 j3).bind fun kB =>
   (cons r8 kB).bind fun (t9, g8) =>
   bif (!t9) then
    some g8
   else
    uD (g8)
  else
   some r8
  ) big (s0, (0 : Int))
theorem en96 : Enters Try.prog 96 := enters_of Try.func96 (by kernel_rfl) rfl
theorem wk96 {σ : Type} {cons : Cons σ FaultDamage} {s0 r : σ} {gI : Gh} {wI : World} {x0 : FaultFaultLoom} {up0 : Value} (rp0 : RV gI.m wI x0 up0) (h : f96 x0 σ cons s0 = some r) : IterC Try.prog (RA1 (α := FaultDamage)) 96 #[up0] #[] gI wI cons s0 r := by
 unfold f96 at h
 refine iter_of_E Try.func96 rfl (Nat.le_of_ble_eq_true rfl) fun l B J g0 hm hAb hRo hfr => ?_
 have rp0 : RV g0.m wI x0 up0 := hm ▸ rp0
 show E _ 96 none _ _ (envAt #[up0, .func (.yield l) #[] #[]]) _ _
 refine E_seq (E_region (EL_do .plain rfl (D_box (g := g0) rfl rp0 fun g1 w1 p1 hs q1 => ?_)))
 have hfr := hfr.ext_ hAb hs
 refine EL_nil (thn_n (E_seq ?_))
 have q2 := PT_field (part_FaultFaultLoom_0).1 q1
 have q3 := PT_field (part_FaultLoom_1).1 q2
 have q4 := PT_field (part_Design_1).1 q3
 refine L_load (x := .tmp 18) Try.isAgg26 Try.sizeOf26 q4 fun v5 r5 tK => ?_
 have q6 := PT_field (part_FaultFaultLoom_0).1 q1
 have q7 := PT_field (part_FaultLoom_1).1 q6
 have q8 := PT_field (part_Design_0).1 q7
 refine L_load (x := .tmp 23) Try.isAgg3 Try.sizeOf3 q8 fun v9 r9 uK => ?_
 obtain rfl := RV_int.1 r9
 have vI := PT_field (part_FaultFaultLoom_0).1 q1
 have xI := PT_field (part_FaultLoom_0).1 vI
 have vK := PT_field (part_TieHarness_1).1 xI
 refine L_load (x := .tmp 27) Try.isAgg26 Try.sizeOf26 vK fun xK yK yI => ?_
 refine E_drawL (g := g1) (n := 17) [] [0, 1, 2, 3, 4, 5, 6, 7, 8, 9, 10, 11, 12, 13, 14, 15, 16] rfl mixed (by kernel_rfl) trivial ?_
 refine L_p (fPtr p1 0) rfl rfl (P_fieldAddr at_104_0 rfl (PT.ptr q1)) ?_
 refine L_p (fPtr (fPtr p1 0) 2) rfl rfl (P_fieldAddr at_32_1 rfl (PT.ptr q2)) ?_
 refine L_p (fPtr (fPtr (fPtr p1 0) 2) 1) rfl rfl (P_fieldAddr at_30_1 rfl (PT.ptr q3)) ?_
 refine L_ld (c := v5) rfl rfl .plain (fun _ _ h => h.ch) tK rfl ?_
 refine L_p (.int .i64 (((((x0).FaultLoom).Design).Rows).length : Int)) rfl rfl (P_len Try.underlying26 rfl r5) ?_
 refine L_p (fPtr p1 0) rfl rfl (P_fieldAddr at_104_0 rfl (PT.ptr q1)) ?_
 refine L_p (fPtr (fPtr p1 0) 2) rfl rfl (P_fieldAddr at_32_1 rfl (PT.ptr q6)) ?_
 refine L_p (fPtr (fPtr (fPtr p1 0) 2) 0) rfl rfl (P_fieldAddr at_30_0 rfl (PT.ptr q7)) ?_
 refine L_ld (c := .int .i64 ((((x0).FaultLoom).Design).Hooks)) rfl rfl .plain (fun _ _ h => h.ch) uK rfl ?_
 refine L_p (fPtr p1 0) rfl rfl (P_fieldAddr at_104_0 rfl (PT.ptr q1)) ?_
 refine L_p (fPtr (fPtr p1 0) 0) rfl rfl (P_fieldAddr at_32_0 rfl (PT.ptr vI)) ?_
 refine L_p (fPtr (fPtr (fPtr p1 0) 0) 1) rfl rfl (P_fieldAddr at_28_1 rfl (PT.ptr xI)) ?_
 refine L_ld (c := xK) rfl rfl .plain (fun _ _ h => h.ch) yI rfl ?_
 refine L_p (.int .i64 (((((x0).FaultLoom).Harness).Warps).length : Int)) rfl rfl (P_len Try.underlying26 rfl yK) ?_
 refine L_p (.int .i64 (((((x0).FaultLoom).Design).Rows).length : Int)) rfl rfl (P_assign rfl) ?_
 refine L_p (.int .i64 ((((x0).FaultLoom).Design).Hooks)) rfl rfl (P_assign rfl) ?_
 refine L_p (.int .i64 (((((x0).FaultLoom).Harness).Warps).length : Int)) rfl rfl (P_assign rfl) ?_
 refine L_nl fun zK bN hs => ?_
 have hfr := hfr.ext_ hAb hs
 clear hs
 refine EL_nil (thn_n (E_seq (E_region (EL_at (.slice none 0 0) rfl rfl ?_))))
 refine EL_nil (thn_n ?_)
 obtain ⟨x6, hx, h⟩ := bsome h
 refine E_join (fun e w => ∃ (g : Gh) (v7 : Value), FrY gI wI B J (s0) g w ∧ e 1 = (.func (.yield l) #[] #[]) ∧ e 4 = .int .i64 ((((((x0).FaultLoom).Design).Rows).length : Int)) ∧ e 5 = .int .i64 ((((x0).FaultLoom).Design).Hooks) ∧ e 6 = .int .i64 ((((((x0).FaultLoom).Harness).Warps).length : Int)) ∧ e 7 = v7 ∧ RV g.m w (x6 : List FaultDamage) v7 ∧ OS 1007 g w 37 (x6 : List FaultDamage) v7) (fun Q' hQ => ?_) (fun bL tL hR => ?_)
 ·replace h := hx
  clear hx
  refine E_seq (E_region (EL_mw (.int .i64 (((((x0).FaultLoom).Design).Rows).length : Int)) rfl rfl ?_))
  refine EL_mw (.int .i64 ((((x0).FaultLoom).Design).Hooks)) rfl rfl ?_
  refine EL_p (.int .i64 ((w64 ((((((x0).FaultLoom).Design).Rows).length : Int) * (((x0).FaultLoom).Design).Hooks)))) (P_int rfl rfl rfl) rfl ?_
  refine EL_mw (.int .i64 (0)) rfl rfl ?_
  refine EL_nil (thn_n (E_block ?_))
  refine E_lp h (fun (s : (List FaultDamage) × Int) e w => ∃ (g : Gh) (v7 : Value), FrY gI wI B J (s0) g w ∧ e 1 = (.func (.yield l) #[] #[]) ∧ e 4 = .int .i64 ((((((x0).FaultLoom).Design).Rows).length : Int)) ∧ e 5 = .int .i64 ((((x0).FaultLoom).Design).Hooks) ∧ e 6 = .int .i64 ((((((x0).FaultLoom).Harness).Warps).length : Int)) ∧ e 7 = v7 ∧ RV g.m w (s.1 : List FaultDamage) v7 ∧ OS 1007 g w 37 (s.1 : List FaultDamage) v7 ∧ e 32 = .int .i64 ((w64 ((((((x0).FaultLoom).Design).Rows).length : Int) * (((x0).FaultLoom).Design).Hooks))) ∧ e 33 = .int .i64 (s.2)) ⟨zK, (.slice none 0 0), hfr, rfl, rfl, rfl, rfl, rfl, RV_nil, OS.nil, rfl, rfl⟩ (fun X95 uI zI => ?_)
  rintro ⟨o9, z2⟩ uL aL ⟨vD, tB, hfr, vB, xB, i8, yB, zB, k8, l8, kA, v8⟩ h
  refine E_seq (E_region (EL_p (.bool ((decide (z2 < (w64 ((((((x0).FaultLoom).Design).Rows).length : Int) * (((x0).FaultLoom).Design).Hooks)))))) (P_int v8 kA rfl) rfl ?_))
  refine EL_nil (thn_n (E_seq ?_))
  rcases csome h with ⟨lB, h⟩ | ⟨lB, h⟩
  ·refine E_ct lB rfl ?_
   refine E_skip (thn_n ?_)
   obtain ⟨t5, hx, h⟩ := bsome h
   refine E_join (fun e w => ∃ (g : Gh) (v7 : Value), FrY gI wI B J (s0) g w ∧ e 1 = (.func (.yield l) #[] #[]) ∧ e 4 = .int .i64 ((((((x0).FaultLoom).Design).Rows).length : Int)) ∧ e 5 = .int .i64 ((((x0).FaultLoom).Design).Hooks) ∧ e 6 = .int .i64 ((((((x0).FaultLoom).Harness).Warps).length : Int)) ∧ e 7 = v7 ∧ RV g.m w (t5 : List FaultDamage) v7 ∧ OS 1007 g w 37 (t5 : List FaultDamage) v7 ∧ e 32 = .int .i64 ((w64 ((((((x0).FaultLoom).Design).Rows).length : Int) * (((x0).FaultLoom).Design).Hooks))) ∧ e 33 = .int .i64 (z2)) (fun Q' hQ => ?_) (fun cL vL hR => ?_)
   ·replace h := hx
    clear hx
    refine E_block ?_
    refine E_seq (E_region (EL_mv v8 rfl ?_))
    refine EL_at (.int .i64 (z2)) rfl rfl ?_
    refine EL_nil (thn_n ?_)
    obtain ⟨y125, xH, h⟩ := bsome h
    obtain ⟨u3, yH, h⟩ := bsome h
    have xD : RV vD.m aL (⟨(1 : Int), y125, u3, 0, false⟩ : FaultDamage) (.agg (setCh [[.int .i64 0], [.int .i64 0], [.int .i64 0], [.int .i64 0], [.bool false]] [(0, .int .i64 (1)), (1, .int .i64 (y125)), (2, .int .i64 (u3))]).flatten.toArray) := RV_build rfl (rep_pair (rfl) (rep_pair (rfl) (rep_pair (rfl) (rep_pair (rep_int) (rep_last (rep_bool))))))
    generalize zH : (Value.agg (setCh [[.int .i64 0], [.int .i64 0], [.int .i64 0], [.int .i64 0], [.bool false]] [(0, .int .i64 (1)), (1, .int .i64 (y125)), (2, .int .i64 (u3))]).flatten.toArray) = yD at xD
    refine E_drawL (g := vD) (n := 9) [(8, (fun v g w => RV g.m w ([(⟨(1 : Int), y125, u3, 0, false⟩ : FaultDamage)] : List FaultDamage) v ∧ OS 3044 g w 37 ([(⟨(1 : Int), y125, u3, 0, false⟩ : FaultDamage)] : List FaultDamage) v ∧ FullV v))] [0, 1, 2, 3, 4, 5, 6, 7, 8] rfl mixed (by kernel_rfl) (⟨fun _ => up_and up_rv (up_and up_os (up_eq _)), trivial⟩) ?_
    refine L_p tB rfl rfl (P_move zB) ?_
    refine L_p (.int .i64 (z2)) rfl rfl (P_move rfl) ?_
    refine L_p (.int .i64 ((((x0).FaultLoom).Design).Hooks)) rfl rfl (P_move i8) ?_
    refine L_p (.int .i64 (y125)) rfl rfl (P_int rfl rfl (congrArg (Option.map (Value.int .i64)) xH)) ?_
    refine L_p (.int .i64 (z2)) rfl rfl (P_move rfl) ?_
    refine L_p (.int .i64 ((((x0).FaultLoom).Design).Hooks)) rfl rfl (P_move i8) ?_
    refine L_p (.int .i64 (u3)) rfl rfl (P_int rfl rfl (congrArg (Option.map (Value.int .i64)) yH)) ?_
    refine L_p yD rfl rfl (zH ▸ P_build (vs := [(0, .int .i64 (1)), (1, .int .i64 (y125)), (2, .int .i64 (u3))]) [[.int .i64 0], [.int .i64 0], [.int .i64 0], [.int .i64 0], [.bool false]] lay_37 rfl rfl (.cons rfl (.cons rfl (.cons rfl .nil))) ⟨⟨_, rfl, rfl⟩, ⟨⟨_, rfl, rfl⟩, ⟨⟨_, rfl, rfl⟩, trivial⟩⟩⟩) ?_
    refine L_do (φ := fun v g w => RV g.m w ([(⟨(1 : Int), y125, u3, 0, false⟩ : FaultDamage)] : List FaultDamage) v ∧ OS 3044 g w 37 ([(⟨(1 : Int), y125, u3, 0, false⟩ : FaultDamage)] : List FaultDamage) v ∧ FullV v) rfl rfl .plain (fun g w hd => D_buildSlice (g := g) 3044 (xs := ([(⟨(1 : Int), y125, u3, 0, false⟩ : FaultDamage)] : List FaultDamage)) (vs := [yD]) Try.underlying47 Try.sizeOf37 Try.zeroValue37 rfl rfl (.cons rfl .nil) (RVs.cons (xD.ext hd.1) RVs.nil) rfl rfl fun g' w' v hs o r hxt hfl => ⟨g', hxt, r, o, hfl⟩) (fun j7 hv => ?_)
    clear hv
    refine L_nil fun aJ xL hall => ?_
    have hs := hall.1
    have hfr := hfr.ext_ hAb hs
    have k8 := k8.ext hs
    have l8 := l8.ext hs
    have bJ := (word_all (A := fun g w => RV g.m w ([(⟨(1 : Int), y125, u3, 0, false⟩ : FaultDamage)] : List FaultDamage) j7 ∧ OS 3044 g w 37 ([(⟨(1 : Int), y125, u3, 0, false⟩ : FaultDamage)] : List FaultDamage) j7 ∧ FullV j7) 8 rfl hall).1
    have o149 := (word_all (A := fun g w => RV g.m w ([(⟨(1 : Int), y125, u3, 0, false⟩ : FaultDamage)] : List FaultDamage) j7 ∧ OS 3044 g w 37 ([(⟨(1 : Int), y125, u3, 0, false⟩ : FaultDamage)] : List FaultDamage) j7 ∧ FullV j7) 8 rfl hall).2.1
    clear hs hall
    obtain ⟨jD, aI, h⟩ := bsome h
    refine EL_do .plain rfl (D_append (g := aJ) (i := 1007) Try.underlying47 info_37 rfl rfl l8 k8 rfl bJ aI fun cJ yL zD hs o150 dJ _ => ?_)
    have hfr := hfr.stp_ hAb hs rfl
    refine EL_at zD rfl rfl ?_
    refine EL_nil (blk_n ?_)
    obtain rfl := sinj h
    exact hQ _ _ ⟨cJ, (zD), hfr, vB, xB, i8, yB, rfl, dJ, o150, kA, v8⟩
   ·clear hx
    obtain ⟨eJ, aE, hfr, bE, cE, dE, eE, gE, iE, jE, dC, eC⟩ := hR
    refine E_region (EL_in (.int .i64 ((w64 (z2 + (1 : Int))))) eC rfl rfl rfl ?_)
    refine EL_mw (.int .i64 ((w64 (z2 + (1 : Int))))) rfl rfl ?_
    exact EL_nil (thn_n (zI (t5, (w64 (z2 + (1 : Int)))) _ _ ⟨eJ, (aE), hfr, bE, cE, dE, eE, gE, iE, jE, dC, rfl⟩ h))
  ·refine E_cf lB rfl ?_
   refine E_exit ?_
   refine thn_e ?_
   refine thn_e ?_
   refine blk_hit ?_
   obtain rfl := sinj h
   exact hQ _ _ ⟨vD, (tB), hfr, vB, xB, i8, yB, zB, k8, l8⟩
 ·clear hx
  obtain ⟨gJ, kE, hfr, lE, mE, nE, oE, rE, sE, tE⟩ := hR
  obtain ⟨y6, hx, h⟩ := bsome h
  refine E_join (fun e w => ∃ (g : Gh) (v7 : Value), FrY gI wI B J (s0) g w ∧ e 1 = (.func (.yield l) #[] #[]) ∧ e 4 = .int .i64 ((((((x0).FaultLoom).Design).Rows).length : Int)) ∧ e 6 = .int .i64 ((((((x0).FaultLoom).Harness).Warps).length : Int)) ∧ e 7 = v7 ∧ RV g.m w (y6 : List FaultDamage) v7 ∧ OS 1007 g w 37 (y6 : List FaultDamage) v7) (fun Q' hQ => ?_) (fun dL iJ hR => ?_)
  ·replace h := hx
   clear hx
   refine E_seq (E_region (EL_mv nE rfl ?_))
   refine EL_mw (.int .i64 (0)) rfl rfl ?_
   refine EL_nil (thn_n (E_block ?_))
   refine E_lp h (fun (s : (List FaultDamage) × Int) e w => ∃ (g : Gh) (v7 : Value), FrY gI wI B J (s0) g w ∧ e 1 = (.func (.yield l) #[] #[]) ∧ e 4 = .int .i64 ((((((x0).FaultLoom).Design).Rows).length : Int)) ∧ e 6 = .int .i64 ((((((x0).FaultLoom).Harness).Warps).length : Int)) ∧ e 7 = v7 ∧ RV g.m w (s.1 : List FaultDamage) v7 ∧ OS 1007 g w 37 (s.1 : List FaultDamage) v7 ∧ e 47 = .int .i64 ((((x0).FaultLoom).Design).Hooks) ∧ e 48 = .int .i64 (s.2)) ⟨gJ, (kE), hfr, lE, mE, oE, rE, sE, tE, rfl, rfl⟩ (fun X168 kD bI => ?_)
   rintro ⟨s7_169, o0⟩ eL uE ⟨u9, vE, hfr, lA, mA, nA, oA, b7, c7, x8, m7⟩ h
   refine E_seq (E_region (EL_p (.bool ((decide (o0 < (((x0).FaultLoom).Design).Hooks)))) (P_int m7 x8 rfl) rfl ?_))
   refine EL_nil (thn_n (E_seq ?_))
   rcases csome h with ⟨y9, h⟩ | ⟨y9, h⟩
   ·refine E_ct y9 rfl ?_
    refine E_skip (thn_n ?_)
    obtain ⟨x5, hx, h⟩ := bsome h
    refine E_join (fun e w => ∃ (g : Gh) (v7 : Value), FrY gI wI B J (s0) g w ∧ e 1 = (.func (.yield l) #[] #[]) ∧ e 4 = .int .i64 ((((((x0).FaultLoom).Design).Rows).length : Int)) ∧ e 6 = .int .i64 ((((((x0).FaultLoom).Harness).Warps).length : Int)) ∧ e 7 = v7 ∧ RV g.m w (x5 : List FaultDamage) v7 ∧ OS 1007 g w 37 (x5 : List FaultDamage) v7 ∧ e 47 = .int .i64 ((((x0).FaultLoom).Design).Hooks) ∧ e 48 = .int .i64 (o0)) (fun Q' hQ => ?_) (fun gL zL hR => ?_)
    ·replace h := hx
     clear hx
     refine E_block ?_
     refine E_seq (E_region (EL_mv m7 rfl ?_))
     refine EL_at (.int .i64 (o0)) rfl rfl ?_
     refine EL_nil (thn_n (E_region (EL_mv oA rfl ?_)))
     refine EL_mw (.int .i64 (o0)) rfl rfl ?_
     have xE : RV u9.m uE (⟨(2 : Int), 0, o0, 0, false⟩ : FaultDamage) (.agg (setCh [[.int .i64 0], [.int .i64 0], [.int .i64 0], [.int .i64 0], [.bool false]] [(0, .int .i64 (2)), (2, .int .i64 (o0))]).flatten.toArray) := RV_build rfl (rep_pair (rfl) (rep_pair (rep_int) (rep_pair (rfl) (rep_pair (rep_int) (rep_last (rep_bool))))))
     generalize cI : (Value.agg (setCh [[.int .i64 0], [.int .i64 0], [.int .i64 0], [.int .i64 0], [.bool false]] [(0, .int .i64 (2)), (2, .int .i64 (o0))]).flatten.toArray) = yE at xE
     refine EL_p yE (cI ▸ P_build (vs := [(0, .int .i64 (2)), (2, .int .i64 (o0))]) [[.int .i64 0], [.int .i64 0], [.int .i64 0], [.int .i64 0], [.bool false]] lay_37 rfl rfl (.cons rfl (.cons rfl .nil)) ⟨⟨_, rfl, rfl⟩, ⟨⟨_, rfl, rfl⟩, trivial⟩⟩) rfl ?_
     refine EL_mw (.int .i64 (o0)) rfl rfl ?_
     have zE : RV u9.m uE (⟨(2 : Int), 0, o0, 0, true⟩ : FaultDamage) (.agg (setCh [[.int .i64 0], [.int .i64 0], [.int .i64 0], [.int .i64 0], [.bool false]] [(0, .int .i64 (2)), (2, .int .i64 (o0)), (4, .bool true)]).flatten.toArray) := RV_build rfl (rep_pair (rfl) (rep_pair (rep_int) (rep_pair (rfl) (rep_pair (rep_int) (rep_last (rfl))))))
     generalize dI : (Value.agg (setCh [[.int .i64 0], [.int .i64 0], [.int .i64 0], [.int .i64 0], [.bool false]] [(0, .int .i64 (2)), (2, .int .i64 (o0)), (4, .bool true)]).flatten.toArray) = cF at zE
     refine EL_p cF (dI ▸ P_build (vs := [(0, .int .i64 (2)), (2, .int .i64 (o0)), (4, .bool true)]) [[.int .i64 0], [.int .i64 0], [.int .i64 0], [.int .i64 0], [.bool false]] lay_37 rfl rfl (.cons rfl (.cons rfl (.cons rfl .nil))) ⟨⟨_, rfl, rfl⟩, ⟨⟨_, rfl, rfl⟩, ⟨⟨_, rfl, rfl⟩, trivial⟩⟩⟩) rfl ?_
     refine EL_do .plain rfl (D_buildSlice (g := u9) 3056 (xs := ([(⟨(2 : Int), 0, o0, 0, false⟩ : FaultDamage), (⟨(2 : Int), 0, o0, 0, true⟩ : FaultDamage)] : List FaultDamage)) (vs := [yE, cF]) Try.underlying47 Try.sizeOf37 Try.zeroValue37 rfl rfl (.cons rfl (.cons rfl .nil)) (RVs.cons xE (RVs.cons zE RVs.nil)) rfl rfl fun jJ aM bM hs o178 kJ hxt hfl => ?_)
     have hfr := hfr.stp_ hAb hs rfl
     have b7 := b7.stp hs
     have c7 := c7.stp hs rfl
     obtain ⟨y180, iI, h⟩ := bsome h
     refine EL_do .plain rfl (D_append (g := jJ) (i := 1007) Try.underlying47 info_37 rfl rfl c7 b7 rfl kJ iI fun lJ cM dF hs o179 mJ _ => ?_)
     have hfr := hfr.stp_ hAb hs rfl
     refine EL_at dF rfl rfl ?_
     refine EL_nil (blk_n ?_)
     obtain rfl := sinj h
     exact hQ _ _ ⟨lJ, (dF), hfr, lA, mA, nA, rfl, mJ, o179, x8, m7⟩
    ·clear hx
     obtain ⟨nJ, eF, hfr, iF, nF, oF, pF, qF, rF, iC, jC⟩ := hR
     refine E_region (EL_in (.int .i64 ((w64 (o0 + (1 : Int))))) jC rfl rfl rfl ?_)
     refine EL_mw (.int .i64 ((w64 (o0 + (1 : Int))))) rfl rfl ?_
     exact EL_nil (thn_n (bI (x5, (w64 (o0 + (1 : Int)))) _ _ ⟨nJ, (eF), hfr, iF, nF, oF, pF, qF, rF, iC, rfl⟩ h))
   ·refine E_cf y9 rfl ?_
    refine E_exit ?_
    refine thn_e ?_
    refine thn_e ?_
    refine blk_hit ?_
    obtain rfl := sinj h
    exact hQ _ _ ⟨u9, (vE), hfr, lA, mA, nA, oA, b7, c7⟩
  ·clear hx
   obtain ⟨sF, tF, hfr, uF, vF, xF, yF, zF, aG⟩ := hR
   obtain ⟨a7, hx, h⟩ := bsome h
   refine E_join (fun e w => ∃ (g : Gh) (v7 : Value), FrY gI wI B J (s0) g w ∧ e 1 = (.func (.yield l) #[] #[]) ∧ e 6 = .int .i64 ((((((x0).FaultLoom).Harness).Warps).length : Int)) ∧ e 7 = v7 ∧ RV g.m w (a7 : List FaultDamage) v7 ∧ OS 1007 g w 37 (a7 : List FaultDamage) v7) (fun Q' hQ => ?_) (fun iL dM hR => ?_)
   ·replace h := hx
    clear hx
    refine E_seq (E_region ?_)
    have bG : RV sF.m iJ (⟨List.toArray [(3 : Int), (4 : Int)], rfl⟩ : Vector Int 2) (.agg (setCh [[.int .i64 0], [.int .i64 0]] [(0, .int .i64 (3)), (1, .int .i64 (4))]).flatten.toArray) := RV_build rfl (rep_vec (flat_chunk rfl (flat_chunk rfl flat_nil)) rfl)
    generalize jI : (Value.agg (setCh [[.int .i64 0], [.int .i64 0]] [(0, .int .i64 (3)), (1, .int .i64 (4))]).flatten.toArray) = q5 at bG
    refine EL_p q5 (jI ▸ P_buildA (vs := [(0, .int .i64 (3)), (1, .int .i64 (4))]) [[.int .i64 0], [.int .i64 0]] Try.underlying257 layA_257 szA_35 rfl (by simp) (.cons rfl (.cons rfl .nil)) ⟨⟨_, rfl, rfl⟩, ⟨⟨_, rfl, rfl⟩, trivial⟩⟩) rfl ?_
    refine EL_mw (.int .i64 (0)) rfl rfl ?_
    refine EL_nil (thn_n (E_block ?_))
    refine E_lp h (fun (s : (List FaultDamage) × Int) e w => ∃ (g : Gh) (v7 : Value), FrY gI wI B J (s0) g w ∧ e 1 = (.func (.yield l) #[] #[]) ∧ e 4 = .int .i64 ((((((x0).FaultLoom).Design).Rows).length : Int)) ∧ e 6 = .int .i64 ((((((x0).FaultLoom).Harness).Warps).length : Int)) ∧ e 7 = v7 ∧ RV g.m w (s.1 : List FaultDamage) v7 ∧ OS 1007 g w 37 (s.1 : List FaultDamage) v7 ∧ e 59 = q5 ∧ RV g.m w ((⟨List.toArray [(3 : Int), (4 : Int)], rfl⟩ : Vector Int 2) : Vector Int 2) q5 ∧ e 60 = .int .i64 (s.2)) ⟨sF, (tF), hfr, uF, vF, xF, yF, zF, aG, rfl, bG, rfl⟩ (fun X217 lD kI => ?_)
    rintro ⟨m8, d3⟩ jL eM ⟨cG, pA, hfr, qA, rA, sA, uA, xA, yA, y8, n7, o7⟩ h
    refine E_seq (E_region (EL_in (.bool ((decide (d3 < (2 : Int))))) o7 rfl rfl rfl ?_))
    refine EL_nil (thn_n (E_seq ?_))
    rcases csome h with ⟨z9, h⟩ | ⟨z9, h⟩
    ·refine E_ct z9 rfl ?_
     refine E_skip (thn_n ?_)
     obtain ⟨j6, hx, h⟩ := bsome h
     refine E_join (fun e w => ∃ (g : Gh) (v7 : Value), FrY gI wI B J (s0) g w ∧ e 1 = (.func (.yield l) #[] #[]) ∧ e 4 = .int .i64 ((((((x0).FaultLoom).Design).Rows).length : Int)) ∧ e 6 = .int .i64 ((((((x0).FaultLoom).Harness).Warps).length : Int)) ∧ e 7 = v7 ∧ RV g.m w (j6 : List FaultDamage) v7 ∧ OS 1007 g w 37 (j6 : List FaultDamage) v7 ∧ e 59 = q5 ∧ RV g.m w ((⟨List.toArray [(3 : Int), (4 : Int)], rfl⟩ : Vector Int 2) : Vector Int 2) q5 ∧ e 60 = .int .i64 (d3)) (fun Q' hQ => ?_) (fun kL gM hR => ?_)
     ·replace h := hx
      clear hx
      refine E_block ?_
      refine E_seq (E_region ?_)
      obtain ⟨i5, aC, h⟩ := bsome h
      have oJ := RV_idxA n7 aC
      refine EL_p (.int .i64 (i5)) ((RV_int.1 oJ) ▸ P_indexA Try.underlying257 Try.isAgg35 Try.sizeOf35 y8 n7 o7 aC) rfl ?_
      refine EL_at (.int .i64 (i5)) rfl rfl ?_
      refine EL_nil (thn_n (E_seq (E_region (EL_p (.int .i64 ((((((x0).FaultLoom).Design).Rows).length : Int))) (P_move rA) rfl ?_))))
      refine EL_mw (.int .i64 (0)) rfl rfl ?_
      refine EL_nil (thn_n (E_block ?_))
      refine E_lp h (fun (s : (List FaultDamage) × Int) e w => ∃ (g : Gh) (v7 : Value), FrY gI wI B J (s0) g w ∧ e 1 = (.func (.yield l) #[] #[]) ∧ e 4 = .int .i64 ((((((x0).FaultLoom).Design).Rows).length : Int)) ∧ e 6 = .int .i64 ((((((x0).FaultLoom).Harness).Warps).length : Int)) ∧ e 7 = v7 ∧ RV g.m w (s.1 : List FaultDamage) v7 ∧ OS 1007 g w 37 (s.1 : List FaultDamage) v7 ∧ e 11 = .int .i64 (i5) ∧ e 59 = q5 ∧ RV g.m w ((⟨List.toArray [(3 : Int), (4 : Int)], rfl⟩ : Vector Int 2) : Vector Int 2) q5 ∧ e 60 = .int .i64 (d3) ∧ e 63 = .int .i64 ((((((x0).FaultLoom).Design).Rows).length : Int)) ∧ e 64 = .int .i64 (s.2)) ⟨cG, (pA), hfr, qA, rA, sA, uA, xA, yA, rfl, y8, n7, o7, rfl, rfl⟩ (fun X236 mD lI => ?_)
      rintro ⟨n8, u0⟩ lL pJ ⟨mB, dG, hfr, zA, aB, bB, cB, d7, e7, a9, d9, z4, e9, i9, u7⟩ h
      refine E_seq (E_region (EL_p (.bool ((decide (u0 < (((((x0).FaultLoom).Design).Rows).length : Int))))) (P_int u7 i9 rfl) rfl ?_))
      refine EL_nil (thn_n (E_seq ?_))
      rcases csome h with ⟨bA, h⟩ | ⟨bA, h⟩
      ·refine E_ct bA rfl ?_
       refine E_skip (thn_n ?_)
       obtain ⟨i6, hx, h⟩ := bsome h
       refine E_join (fun e w => ∃ (g : Gh) (v7 : Value), FrY gI wI B J (s0) g w ∧ e 1 = (.func (.yield l) #[] #[]) ∧ e 4 = .int .i64 ((((((x0).FaultLoom).Design).Rows).length : Int)) ∧ e 6 = .int .i64 ((((((x0).FaultLoom).Harness).Warps).length : Int)) ∧ e 7 = v7 ∧ RV g.m w (i6 : List FaultDamage) v7 ∧ OS 1007 g w 37 (i6 : List FaultDamage) v7 ∧ e 11 = .int .i64 (i5) ∧ e 59 = q5 ∧ RV g.m w ((⟨List.toArray [(3 : Int), (4 : Int)], rfl⟩ : Vector Int 2) : Vector Int 2) q5 ∧ e 60 = .int .i64 (d3) ∧ e 63 = .int .i64 ((((((x0).FaultLoom).Design).Rows).length : Int)) ∧ e 64 = .int .i64 (u0)) (fun Q' hQ => ?_) (fun mL iM hR => ?_)
       ·replace h := hx
        clear hx
        refine E_block ?_
        refine E_seq (E_region (EL_mv u7 rfl ?_))
        refine EL_at (.int .i64 (u0)) rfl rfl ?_
        refine EL_nil (thn_n (E_region (EL_mv cB rfl ?_)))
        refine EL_mv a9 rfl ?_
        refine EL_mw (.int .i64 (u0)) rfl rfl ?_
        have eG : RV mB.m pJ (⟨i5, u0, 0, 0, false⟩ : FaultDamage) (.agg (setCh [[.int .i64 0], [.int .i64 0], [.int .i64 0], [.int .i64 0], [.bool false]] [(0, .int .i64 (i5)), (1, .int .i64 (u0))]).flatten.toArray) := RV_build rfl (rep_pair (rfl) (rep_pair (rfl) (rep_pair (rep_int) (rep_pair (rep_int) (rep_last (rep_bool))))))
        generalize mI : (Value.agg (setCh [[.int .i64 0], [.int .i64 0], [.int .i64 0], [.int .i64 0], [.bool false]] [(0, .int .i64 (i5)), (1, .int .i64 (u0))]).flatten.toArray) = gG at eG
        refine EL_p gG (mI ▸ P_build (vs := [(0, .int .i64 (i5)), (1, .int .i64 (u0))]) [[.int .i64 0], [.int .i64 0], [.int .i64 0], [.int .i64 0], [.bool false]] lay_37 rfl rfl (.cons rfl (.cons rfl .nil)) ⟨⟨_, rfl, rfl⟩, ⟨⟨_, rfl, rfl⟩, trivial⟩⟩) rfl ?_
        refine EL_do .plain rfl (D_buildSlice (g := mB) 3071 (xs := ([(⟨i5, u0, 0, 0, false⟩ : FaultDamage)] : List FaultDamage)) (vs := [gG]) Try.underlying47 Try.sizeOf37 Try.zeroValue37 rfl rfl (.cons rfl .nil) (RVs.cons eG RVs.nil) rfl rfl fun qJ jM kM hs o244 rJ hxt hfl => ?_)
        have hfr := hfr.stp_ hAb hs rfl
        have d7 := d7.stp hs
        have e7 := e7.stp hs rfl
        have z4 := z4.stp hs
        obtain ⟨nD, nI, h⟩ := bsome h
        refine EL_do .plain rfl (D_append (g := qJ) (i := 1007) Try.underlying47 info_37 rfl rfl e7 d7 rfl rJ nI fun sJ mM hG hs o245 tJ _ => ?_)
        have hfr := hfr.stp_ hAb hs rfl
        have z4 := z4.stp hs
        refine EL_at hG rfl rfl ?_
        refine EL_nil (blk_n ?_)
        obtain rfl := sinj h
        exact hQ _ _ ⟨sJ, (hG), hfr, zA, aB, bB, rfl, tJ, o245, a9, d9, z4, e9, i9, u7⟩
       ·clear hx
        obtain ⟨uJ, iG, hfr, jG, kG, lG, mG, nG, oG, kC, lC, mC, qC, rC, tC⟩ := hR
        refine E_region (EL_in (.int .i64 ((w64 (u0 + (1 : Int))))) tC rfl rfl rfl ?_)
        refine EL_mw (.int .i64 ((w64 (u0 + (1 : Int))))) rfl rfl ?_
        exact EL_nil (thn_n (lI (i6, (w64 (u0 + (1 : Int)))) _ _ ⟨uJ, (iG), hfr, jG, kG, lG, mG, nG, oG, kC, lC, mC, qC, rC, rfl⟩ h))
      ·refine E_cf bA rfl ?_
       refine E_exit ?_
       refine thn_e ?_
       refine thn_e ?_
       refine blk_hit ?_
       refine blk_n ?_
       obtain rfl := sinj h
       exact hQ _ _ ⟨mB, (dG), hfr, zA, aB, bB, cB, d7, e7, d9, z4, e9⟩
     ·clear hx
      obtain ⟨vJ, pG, hfr, qG, rG, sG, tG, uG, vG, uC, vC, xC⟩ := hR
      refine E_region (EL_in (.int .i64 ((w64 (d3 + (1 : Int))))) xC rfl rfl rfl ?_)
      refine EL_mw (.int .i64 ((w64 (d3 + (1 : Int))))) rfl rfl ?_
      exact EL_nil (thn_n (kI (j6, (w64 (d3 + (1 : Int)))) _ _ ⟨vJ, (pG), hfr, qG, rG, sG, tG, uG, vG, uC, vC, rfl⟩ h))
    ·refine E_cf z9 rfl ?_
     refine E_exit ?_
     refine thn_e ?_
     refine thn_e ?_
     refine blk_hit ?_
     obtain rfl := sinj h
     exact hQ _ _ ⟨cG, (pA), hfr, qA, sA, uA, xA, yA⟩
   ·clear hx
    obtain ⟨xJ, xG, hfr, yG, zG, aH, bH, cH⟩ := hR
    obtain ⟨i3, hx, h⟩ := bsome h
    refine E_join (fun e w => ∃ (g : Gh) (v7 : Value), FrY gI wI B J (s0) g w ∧ e 1 = (.func (.yield l) #[] #[]) ∧ e 7 = v7 ∧ RV g.m w (i3 : List FaultDamage) v7 ∧ OS 1007 g w 37 (i3 : List FaultDamage) v7) (fun Q' hQ => ?_) (fun nL nM hR => ?_)
    ·replace h := hx
     clear hx
     refine E_seq (E_region (EL_p (.int .i64 ((((((x0).FaultLoom).Harness).Warps).length : Int))) (P_move zG) rfl ?_))
     refine EL_mw (.int .i64 (0)) rfl rfl ?_
     refine EL_nil (thn_n (E_block ?_))
     refine E_lp h (fun (s : (List FaultDamage) × Int) e w => ∃ (g : Gh) (v7 : Value), FrY gI wI B J (s0) g w ∧ e 1 = (.func (.yield l) #[] #[]) ∧ e 7 = v7 ∧ RV g.m w (s.1 : List FaultDamage) v7 ∧ OS 1007 g w 37 (s.1 : List FaultDamage) v7 ∧ e 75 = .int .i64 ((((((x0).FaultLoom).Harness).Warps).length : Int)) ∧ e 76 = .int .i64 (s.2)) ⟨xJ, (xG), hfr, yG, aH, bH, cH, rfl, rfl⟩ (fun X262 oD oI => ?_)
     rintro ⟨o8, j1⟩ oL yJ ⟨nB, dH, hfr, dB, eB, g7, i7, k9, c8⟩ h
     refine E_seq (E_region (EL_p (.bool ((decide (j1 < (((((x0).FaultLoom).Harness).Warps).length : Int))))) (P_int c8 k9 rfl) rfl ?_))
     refine EL_nil (thn_n (E_seq ?_))
     rcases csome h with ⟨gA, h⟩ | ⟨gA, h⟩
     ·refine E_ct gA rfl ?_
      refine E_skip (thn_n ?_)
      obtain ⟨v6, hx, h⟩ := bsome h
      refine E_join (fun e w => ∃ (g : Gh) (v7 : Value), FrY gI wI B J (s0) g w ∧ e 1 = (.func (.yield l) #[] #[]) ∧ e 7 = v7 ∧ RV g.m w (v6 : List FaultDamage) v7 ∧ OS 1007 g w 37 (v6 : List FaultDamage) v7 ∧ e 75 = .int .i64 ((((((x0).FaultLoom).Harness).Warps).length : Int)) ∧ e 76 = .int .i64 (j1)) (fun Q' hQ => ?_) (fun pL oM hR => ?_)
      ·replace h := hx
       clear hx
       refine E_block ?_
       refine E_seq (E_region (EL_mv c8 rfl ?_))
       refine EL_at (.int .i64 (j1)) rfl rfl ?_
       refine EL_nil (thn_n (E_region (EL_mv eB rfl ?_)))
       refine EL_mw (.int .i64 (j1)) rfl rfl ?_
       have gH : RV nB.m yJ (⟨(5 : Int), 0, 0, j1, false⟩ : FaultDamage) (.agg (setCh [[.int .i64 0], [.int .i64 0], [.int .i64 0], [.int .i64 0], [.bool false]] [(0, .int .i64 (5)), (3, .int .i64 (j1))]).flatten.toArray) := RV_build rfl (rep_pair (rfl) (rep_pair (rep_int) (rep_pair (rep_int) (rep_pair (rfl) (rep_last (rep_bool))))))
       generalize pI : (Value.agg (setCh [[.int .i64 0], [.int .i64 0], [.int .i64 0], [.int .i64 0], [.bool false]] [(0, .int .i64 (5)), (3, .int .i64 (j1))]).flatten.toArray) = iH at gH
       refine EL_p iH (pI ▸ P_build (vs := [(0, .int .i64 (5)), (3, .int .i64 (j1))]) [[.int .i64 0], [.int .i64 0], [.int .i64 0], [.int .i64 0], [.bool false]] lay_37 rfl rfl (.cons rfl (.cons rfl .nil)) ⟨⟨_, rfl, rfl⟩, ⟨⟨_, rfl, rfl⟩, trivial⟩⟩) rfl ?_
       refine EL_do .plain rfl (D_buildSlice (g := nB) 3082 (xs := ([(⟨(5 : Int), 0, 0, j1, false⟩ : FaultDamage)] : List FaultDamage)) (vs := [iH]) Try.underlying47 Try.sizeOf37 Try.zeroValue37 rfl rfl (.cons rfl .nil) (RVs.cons gH RVs.nil) rfl rfl fun zJ pM qM hs o270 aK hxt hfl => ?_)
       have hfr := hfr.stp_ hAb hs rfl
       have g7 := g7.stp hs
       have i7 := i7.stp hs rfl
       obtain ⟨sD, qI, h⟩ := bsome h
       refine EL_do .plain rfl (D_append (g := zJ) (i := 1007) Try.underlying47 info_37 rfl rfl i7 g7 rfl aK qI fun bK rM jH hs o271 cK _ => ?_)
       have hfr := hfr.stp_ hAb hs rfl
       refine EL_at jH rfl rfl ?_
       refine EL_nil (blk_n ?_)
       obtain rfl := sinj h
       exact hQ _ _ ⟨bK, (jH), hfr, dB, rfl, cK, o271, k9, c8⟩
      ·clear hx
       obtain ⟨dK, kH, hfr, lH, mH, nH, oH, yC, aD⟩ := hR
       refine E_region (EL_in (.int .i64 ((w64 (j1 + (1 : Int))))) aD rfl rfl rfl ?_)
       refine EL_mw (.int .i64 ((w64 (j1 + (1 : Int))))) rfl rfl ?_
       exact EL_nil (thn_n (oI (v6, (w64 (j1 + (1 : Int)))) _ _ ⟨dK, (kH), hfr, lH, mH, nH, oH, yC, rfl⟩ h))
     ·refine E_cf gA rfl ?_
      refine E_exit ?_
      refine thn_e ?_
      refine thn_e ?_
      refine blk_hit ?_
      obtain rfl := sinj h
      exact hQ _ _ ⟨nB, (dH), hfr, dB, eB, g7, i7⟩
    ·clear hx
     obtain ⟨eK, l5, hfr, pH, qH, iB, sH⟩ := hR
     refine E_seq (E_region (EL_mv qH rfl ?_))
     refine EL_p (.int .i64 ((i3).length : Int)) (P_len Try.underlying47 rfl iB) rfl ?_
     refine EL_mw (.int .i64 (0)) rfl rfl ?_
     refine EL_nil (thn_n (E_block ?_))
     refine E_lp h (fun (s : σ × Int) e w => ∃ (g : Gh) , FrY gI wI B J (s.1) g w ∧ e 1 = (.func (.yield l) #[] #[]) ∧ e 85 = l5 ∧ RV g.m w (i3 : List FaultDamage) l5 ∧ OS 1007 g w 37 (i3 : List FaultDamage) l5 ∧ e 86 = .int .i64 (((i3).length : Int)) ∧ e 87 = .int .i64 (s.2)) ⟨eK, hfr, pH, rfl, iB, sH, rfl, rfl⟩ (fun X275 tD rI => ?_)
     rintro ⟨r8, j3⟩ qL sM ⟨tH, hfr, jB, l9, o3, z3, n9, e8⟩ h
     refine E_seq (E_region (EL_in (.bool ((decide (j3 < ((i3).length : Int))))) e8 n9 rfl rfl ?_))
     refine EL_nil (thn_n (E_seq ?_))
     rcases csome h with ⟨iA, h⟩ | ⟨iA, h⟩
     ·refine E_ct iA rfl ?_
      refine E_skip (thn_n (E_joinC h (fun (s : σ) e w => ∃ (g : Gh) , FrY gI wI B J (s) g w ∧ e 1 = (.func (.yield l) #[] #[]) ∧ e 85 = l5 ∧ RV g.m w (i3 : List FaultDamage) l5 ∧ OS 1007 g w 37 (i3 : List FaultDamage) l5 ∧ e 86 = .int .i64 (((i3).length : Int)) ∧ e 87 = .int .i64 (j3)) (fun X287 uD sI h => ?_) ?_))
      ·refine E_block ?_
       refine E_seq (E_region ?_)
       obtain ⟨kB, cC, h⟩ := bsome h
       refine EL_p (ePtr l5 j3 5) (P_indexAddr (α := FaultDamage) Try.underlying47 Try.sizeOf37 l9 o3 e8 cC) rfl ?_
       have lK := PT_idx o3 cC
       refine EL_do .plain rfl (D_load (g := tH) Try.isAgg37 Try.sizeOf37 rfl lK fun mK oB => ?_)
       refine EL_do .plain rfl (D_allocOc (g := tH) 2015 (⟨0, 0, 0, 0, false⟩ : FaultDamage) Try.zeroValue37 (fun m w => ⟨_, (rep_two rep_int (rep_two rep_int (rep_two rep_int (rep_two rep_int rep_bool)))), rfl⟩) fun nK tM uM hs b291 cb => ?_)
       have hfr := hfr.stp_ hAb hs rfl
       have o3 := o3.stp hs
       have z3 := z3.stp hs rfl
       have oB := oB.stp hs
       clear cb
       refine EL_do .plain rfl (D_storeOc (g := nK) (v := mK) Try.sizeOf37 rfl b291 rfl oB fun uH vM hs b292 cb => ?_)
       clear cb
       have hfr := hfr.stp_ hAb hs rfl
       have o3 := o3.stp hs
       have z3 := z3.stp hs rfl
       refine EL_nil (thn_n (E_seq (E_region (EL_mv jB rfl ?_))))
       refine EL_do .plain rfl (D_loadO (g := uH) Try.isAgg37 Try.sizeOf37 rfl b292 fun xM oK => ?_)
       obtain ⟨pK, tI, h⟩ := bsome h
       obtain ⟨t9, g8⟩ := pK
       refine EL_do .plain rfl (D_yield (g := uH) (x := kB) rfl (.cons rfl .nil) hRo hfr tI ⟨_, rfl, oK⟩ fun qK yM hs hfrY => ?_)
       have o3 := o3.stp hs
       have z3 := z3.stp hs rfl
       have hfr := hfrY
       clear hfrY
       refine EL_p (.bool (!t9)) (P_not rfl) rfl ?_
       refine EL_nil (thn_n ?_)
       rcases csome h with ⟨jA, h⟩ | ⟨jA, h⟩
       ·refine E_ct jA rfl ?_
        refine E_ret (blk_r ?_)
        refine thn_r ?_
        refine thn_r ?_
        refine blk_r ?_
        obtain rfl := sinj h
        exact end0 rfl rfl (FrY.done hfr)
       ·refine E_cf jA rfl ?_
        exact E_skip (blk_n (thn_n (sI (g8) _ _ ⟨qK, hfr, jB, l9, o3, z3, n9, e8⟩ h)))
      ·rintro t8 rL zM ⟨sK, hfr, vH, bD, cD, eD, gD, iD⟩ h
       refine E_region (EL_in (.int .i64 ((w64 (j3 + (1 : Int))))) iD rfl rfl rfl ?_)
       refine EL_mw (.int .i64 ((w64 (j3 + (1 : Int))))) rfl rfl ?_
       exact EL_nil (thn_n (rI (t8, (w64 (j3 + (1 : Int)))) _ _ ⟨sK, hfr, vH, bD, cD, eD, gD, rfl⟩ h))
     ·refine E_cf iA rfl ?_
      refine E_exit ?_
      refine thn_e ?_
      refine thn_e ?_
      refine blk_hit ?_
      obtain rfl := sinj h
      exact end0n rfl rfl (FrY.done hfr)
def f97 (x0 : List Str) (x1 : List Str) : Option (Bool) :=
 jn (σ := Unit) (fun _ =>
  jn (σ := Unit) (fun _ =>
   some (true)
   ) fun a7 =>
  lp (σ := Int) (fun b7 o0 =>
   bif (decide (o0 < ((x0).length : Int))) then
    jn (σ := Unit) (fun _ =>
     b7 ((w64 (o0 + (1 : Int))))
     ) fun c7 =>
    (idx x0 o0).bind fun o3 =>
    (idx x1 o0).bind fun u3 =>
    bif (!((o3).b == (u3).b)) then
     some (false)
    else
     c7 ()
   else
    a7 ()
   ) big ((0 : Int))
  ) fun k2 =>
 bif (((x0).length : Int) != ((x1).length : Int)) then
  some (false)
 else
  k2 ()
theorem en97 : Enters Try.prog 97 := enters_of Try.func97 (by kernel_rfl) rfl
theorem wk97 {gI : Gh} {wI : World} {x0 : List Str} {x1 : List Str} {up0 : Value} (rp0 : RV gI.m wI x0 up0) {up1 : Value} (rp1 : RV gI.m wI x1 up1) {r : Bool} (h : f97 x0 x1 = some r) : Fn Try.prog 97 #[up0, up1] gI wI (fun _ _ v => v = .bool (r)) := by
 unfold f97 at h
 refine fn_of_E Try.func97 rfl (Nat.le_of_ble_eq_true rfl) fun g0 hm hfr => ?_
 have rp0 : RV g0.m wI x0 up0 := hm ▸ rp0
 have rp1 : RV g0.m wI x1 up1 := hm ▸ rp1
 show E _ 26 none _ _ _ _ _
 refine E_seq (E_region (EL_at (.bool false) rfl rfl ?_))
 refine EL_nil (thn_n (E_joinC h (fun (s : Unit) e w => ∃ (g : Gh) , Fr gI wI g w ∧ e 0 = up0 ∧ RV g.m w (x0 : List Str) up0 ∧ e 1 = up1 ∧ RV g.m w (x1 : List Str) up1) (fun X2 k2 hk2 h => ?_) ?_))
 ·refine E_seq (E_region (EL_mw up0 rfl rfl ?_))
  refine EL_p (.int .i64 ((x0).length : Int)) (P_len Try.underlying38 rfl rp0) rfl ?_
  refine EL_mw up1 rfl rfl ?_
  refine EL_p (.int .i64 ((x1).length : Int)) (P_len Try.underlying38 rfl rp1) rfl ?_
  refine EL_in (.bool ((((x0).length : Int) != ((x1).length : Int)))) rfl rfl rfl rfl ?_
  refine EL_nil (thn_n ?_)
  rcases csome h with ⟨hc3, h⟩ | ⟨hc3, h⟩
  ·refine E_ct hc3 rfl ?_
   refine E_seq (E_region (EL_at (.bool false) rfl rfl ?_))
   refine EL_nil (thn_n (E_ret (thn_r ?_)))
   obtain rfl := sinj h
   exact end1 rfl rfl (show _ = .bool false from rfl) ⟨_, hfr, rfl⟩
  ·refine E_cf hc3 rfl ?_
   exact E_skip (thn_n (hk2 () _ _ ⟨g0, hfr, rfl, rp0, rfl, rp1⟩ h))
 ·rintro _ r8 w4 ⟨g4, hfr, q5, t5, e7, g7⟩ h
  refine E_joinC h (fun (s : Unit) e w => ∃ (g : Gh) , Fr gI wI g w) (fun X58 a7 i7 h => ?_) ?_
  ·refine E_seq (E_region (EL_mv q5 rfl ?_))
   refine EL_p (.int .i64 ((x0).length : Int)) (P_len Try.underlying38 rfl t5) rfl ?_
   refine EL_mw (.int .i64 (0)) rfl rfl ?_
   refine EL_nil (thn_n (E_block ?_))
   refine E_lp h (fun (s : Int) e w => ∃ (g : Gh) , Fr gI wI g w ∧ e 0 = up0 ∧ RV g.m w (x0 : List Str) up0 ∧ e 1 = up1 ∧ RV g.m w (x1 : List Str) up1 ∧ e 12 = .int .i64 (((x0).length : Int)) ∧ e 13 = .int .i64 (s)) ⟨g4, hfr, q5, t5, e7, g7, rfl, rfl⟩ (fun X59 b7 j7 => ?_)
   rintro o0 m8 t8 ⟨d7, hfr, z3, u0, z4, j1, i3, z2⟩ h
   refine E_seq (E_region (EL_in (.bool ((decide (o0 < ((x0).length : Int))))) z2 i3 rfl rfl ?_))
   refine EL_nil (thn_n (E_seq ?_))
   rcases csome h with ⟨j3, h⟩ | ⟨j3, h⟩
   ·refine E_ct j3 rfl ?_
    refine E_skip (thn_n (E_joinC h (fun (s : Unit) e w => ∃ (g : Gh) , Fr gI wI g w ∧ e 0 = up0 ∧ RV g.m w (x0 : List Str) up0 ∧ e 1 = up1 ∧ RV g.m w (x1 : List Str) up1 ∧ e 12 = .int .i64 (((x0).length : Int)) ∧ e 13 = .int .i64 (o0)) (fun X87 c7 m7 h => ?_) ?_))
    ·refine E_block ?_
     refine E_seq (E_region (EL_mv z2 rfl ?_))
     refine EL_at (.int .i64 (o0)) rfl rfl ?_
     refine EL_nil (thn_n (E_seq ?_))
     obtain ⟨o3, x5, h⟩ := bsome h
     have v7 := PT_idx u0 x5
     refine L_load (x := .tmp 18) Try.isAgg9 Try.sizeOf9 v7 fun v8 c8 n7 => ?_
     obtain rfl := RV_str.1 c8
     obtain ⟨u3, i6, h⟩ := bsome h
     have e8 := PT_idx j1 i6
     refine L_load (x := .tmp 22) Try.isAgg9 Try.sizeOf9 e8 fun x8 g8 o7 => ?_
     obtain rfl := RV_str.1 g8
     refine E_drawL (g := d7) (n := 9) [] [0, 1, 2, 3, 4, 5, 6, 7, 8] rfl mixed (by kernel_rfl) trivial ?_
     refine L_p up0 rfl rfl (P_move z3) ?_
     refine L_p (.int .i64 (o0)) rfl rfl (P_move rfl) ?_
     refine L_p (ePtr up0 o0 1) rfl rfl (P_indexAddr (α := Str) Try.underlying38 Try.sizeOf9 rfl u0 rfl x5) ?_
     refine L_ld (c := Str.v (o3)) rfl rfl .plain (fun _ _ h => h.ch) n7 rfl ?_
     refine L_p up1 rfl rfl (P_move z4) ?_
     refine L_p (.int .i64 (o0)) rfl rfl (P_move rfl) ?_
     refine L_p (ePtr up1 o0 1) rfl rfl (P_indexAddr (α := Str) Try.underlying38 Try.sizeOf9 rfl j1 rfl i6) ?_
     refine L_ld (c := Str.v (u3)) rfl rfl .plain (fun _ _ h => h.ch) o7 rfl ?_
     refine L_p (.bool ((!((o3).b == (u3).b)))) rfl rfl (P_str rfl rfl rfl) ?_
     refine L_nl fun i8 y8 hs => ?_
     have hfr := hfr.ext hs
     have u0 := u0.ext hs
     have j1 := j1.ext hs
     clear hs
     refine EL_nil (thn_n ?_)
     rcases csome h with ⟨d3, h⟩ | ⟨d3, h⟩
     ·refine E_ct d3 rfl ?_
      refine E_seq (E_region (EL_at (.bool false) rfl rfl ?_))
      refine EL_nil (thn_n (E_ret (blk_r ?_)))
      refine thn_r ?_
      refine thn_r ?_
      refine blk_r ?_
      refine thn_r ?_
      obtain rfl := sinj h
      exact end1 rfl rfl (show _ = .bool false from rfl) ⟨_, hfr, rfl⟩
     ·refine E_cf d3 rfl ?_
      exact E_skip (blk_n (thn_n (m7 () _ _ ⟨i8, hfr, z3, u0, z4, j1, i3, z2⟩ h)))
    ·rintro _ k8 n8 ⟨u7, hfr, j6, v6, x6, y6, i5, l5⟩ h
     refine E_region (EL_in (.int .i64 ((w64 (o0 + (1 : Int))))) l5 rfl rfl rfl ?_)
     refine EL_mw (.int .i64 ((w64 (o0 + (1 : Int))))) rfl rfl ?_
     exact EL_nil (thn_n (j7 ((w64 (o0 + (1 : Int)))) _ _ ⟨u7, hfr, j6, v6, x6, y6, i5, rfl⟩ h))
   ·refine E_cf j3 rfl ?_
    refine E_exit ?_
    refine thn_e ?_
    refine thn_e ?_
    refine blk_hit ?_
    exact thn_n (i7 () _ _ ⟨d7, hfr⟩ h)
  ·rintro _ l8 o8 ⟨q8, hfr⟩ h
   refine E_seq (E_region (EL_at (.bool true) rfl rfl ?_))
   refine EL_nil (thn_n (E_ret ?_))
   obtain rfl := sinj h
   exact end1 rfl rfl (show _ = .bool true from rfl) ⟨_, hfr, rfl⟩
def f98 (x0 : FaultSight) (z0 : List Str) : Option (Bool) :=
 (rem64 (x0).Pick ((z0).length : Int)).bind fun y6 =>
 (idx z0 y6).bind fun y7 =>
 (idx (y7).b (x0).Warp).bind fun o0 =>
 some ((!((o0 == (120 : UInt8)) == (x0).Lifted)))
theorem en98 : Enters Try.prog 98 := enters_of Try.func98 (by kernel_rfl) rfl
theorem wk98 {gI : Gh} {wI : World} {x0 : FaultSight} {z0 : List Str} {up0 : Value} (rp0 : RV gI.m wI x0 up0) {pf0 : Value} (qf0 : PT gI.m wI z0 pf0) {r : Bool} (h : f98 x0 z0 = some r) : Fn Try.prog 98 #[up0, pf0] gI wI (fun _ _ v => v = .bool (r)) := by
 unfold f98 at h
 refine fn_of_E Try.func98 rfl (Nat.le_of_ble_eq_true rfl) fun g0 hm hfr => ?_
 have qf0 : PT g0.m wI z0 pf0 := hm ▸ qf0
 have rp0 : RV g0.m wI x0 up0 := hm ▸ rp0
 show E _ 19 none _ _ _ _ _
 refine E_seq (E_region (EL_do .plain rfl (D_box (g := g0) rfl rp0 fun g1 w1 p1 hs q1 => ?_)))
 have hfr := hfr.ext hs
 have qf0 := qf0.ext hs
 refine EL_at (.bool false) rfl rfl ?_
 refine EL_nil (thn_n (E_seq (L_load (x := .tmp 1) Try.isAgg38 Try.sizeOf38 qf0 fun v2 r2 hl2 => ?_)))
 have q3 := PT_field (part_FaultSight_0).1 q1
 refine L_load (x := .tmp 5) Try.isAgg3 Try.sizeOf3 q3 fun v4 r4 i3 => ?_
 obtain rfl := RV_int.1 r4
 refine L_load (x := .tmp 1) Try.isAgg38 Try.sizeOf38 qf0 fun v5 r5 j3 => ?_
 obtain ⟨y6, o3, h⟩ := bsome h
 obtain ⟨y7, u0, h⟩ := bsome h
 have q8 := PT_idx r2 u0
 refine L_load (x := .tmp 10) Try.isAgg9 Try.sizeOf9 q8 fun v9 r9 u3 => ?_
 obtain rfl := RV_str.1 r9
 have z3 := PT_field (part_FaultSight_1).1 q1
 refine L_load (x := .tmp 12) Try.isAgg3 Try.sizeOf3 z3 fun q5 z4 j1 => ?_
 obtain rfl := RV_int.1 z4
 obtain ⟨o0, z2, h⟩ := bsome h
 have i5 := PT_field (part_FaultSight_2).1 q1
 refine L_load (x := .tmp 16) Try.isAgg4 Try.sizeOf4 i5 fun t5 l5 d3 => ?_
 obtain rfl := RV_bool.1 l5
 refine E_drawL (g := g1) (n := 16) [] [0, 1, 2, 3, 4, 5, 6, 7, 8, 9, 10, 11, 12, 13, 14, 15] rfl mixed (by kernel_rfl) trivial ?_
 refine L_ld (c := v2) rfl rfl .plain (fun _ _ h => h.ch) hl2 rfl ?_
 refine L_p (fPtr p1 0) rfl rfl (P_fieldAddr at_51_0 rfl (PT.ptr q1)) ?_
 refine L_ld (c := .int .i64 ((x0).Pick)) rfl rfl .plain (fun _ _ h => h.ch) i3 rfl ?_
 refine L_ld (c := v5) rfl rfl .plain (fun _ _ h => h.ch) j3 rfl ?_
 refine L_p (.int .i64 ((z0).length : Int)) rfl rfl (P_len Try.underlying38 rfl r5) ?_
 refine L_p (.int .i64 (y6)) rfl rfl (P_int rfl rfl (congrArg (Option.map (Value.int .i64)) o3)) ?_
 refine L_p (ePtr v2 y6 1) rfl rfl (P_indexAddr (α := Str) Try.underlying38 Try.sizeOf9 rfl r2 rfl u0) ?_
 refine L_ld (c := Str.v (y7)) rfl rfl .plain (fun _ _ h => h.ch) u3 rfl ?_
 refine L_p (fPtr p1 1) rfl rfl (P_fieldAddr at_51_1 rfl (PT.ptr q1)) ?_
 refine L_ld (c := .int .i64 ((x0).Warp)) rfl rfl .plain (fun _ _ h => h.ch) j1 rfl ?_
 refine L_p (.int .u8 (UInt8.toNat (o0))) rfl rfl (P_indexS Try.underlying9 rfl rfl z2) ?_
 refine L_p (.bool ((o0 == (120 : UInt8)))) rfl rfl (P_u8 rfl rfl rfl) ?_
 refine L_p (fPtr p1 2) rfl rfl (P_fieldAddr at_51_2 rfl (PT.ptr q1)) ?_
 refine L_ld (c := .bool ((x0).Lifted)) rfl rfl .plain (fun _ _ h => h.ch) d3 rfl ?_
 refine L_p (.bool ((!((o0 == (120 : UInt8)) == (x0).Lifted)))) rfl rfl (P_bool Try.underlying4 rfl rfl rfl) ?_
 refine L_p (.bool ((!((o0 == (120 : UInt8)) == (x0).Lifted)))) rfl rfl (P_assign rfl) ?_
 refine L_nl fun x5 w15 hs => ?_
 have hfr := hfr.ext hs
 clear hs
 refine EL_nil (thn_n (E_ret ?_))
 obtain rfl := sinj h
 exact end1 rfl rfl (show _ = .bool ((!((o0 == (120 : UInt8)) == (x0).Lifted))) from rfl) ⟨_, hfr, rfl⟩
def f105 (z0 : List Str) (z1 : List Str) (σ : Type) (cons : Cons σ (Int × Int)) (s0 : σ) : Option σ :=
 lp (σ := σ × Int) (fun k2 (o7, u0) =>
  bif (decide (u0 < ((z0).length : Int))) then
   jn (σ := σ) (fun j6 =>
    k2 (j6, (w64 (u0 + (1 : Int))))
    ) fun q8 =>
   (idx z0 u0).bind fun d3 =>
   lp (σ := σ × Nat) (fun r8 (z3, o0) =>
    bif (decide (o0 < (d3).b.length)) then
     Option.bind (α := σ × Bool) (
      (idx (d3).b ((o0 : Nat) : Int)).bind fun j3 =>
      (idx z1 u0).bind fun d7 =>
      (idx (d7).b ((o0 : Nat) : Int)).bind fun o3 =>
      bif (j3 != o3) then
       (cons z3 (u0, ((o0 : Nat) : Int))).bind fun (i6, e8) =>
       some (e8, (!i6))
      else
       some (z3, false)
      ) fun (z4, u3) =>
     bif u3 then
      some z4
     else
      r8 (z4, (o0 + (dec d3 o0).2))
    else
     q8 (z3)
    ) big (o7, 0)
  else
   some o7
  ) big (s0, (0 : Int))
theorem en105 : Enters Try.prog 105 := enters_of Try.func105 (by kernel_rfl) rfl
theorem wk105 {σ : Type} {cons : Cons σ (Int × Int)} {s0 r : σ} {gI : Gh} {wI : World} {z0 : List Str} {z1 : List Str} {pf0 : Value} (qf0 : PT gI.m wI z0 pf0) {pf1 : Value} (qf1 : PT gI.m wI z1 pf1) (h : f105 z0 z1 σ cons s0 = some r) : IterC Try.prog (RA2 (α := Int) (β := Int)) 105 #[] #[pf0, pf1] gI wI cons s0 r := by
 unfold f105 at h
 refine iter_of_E Try.func105 rfl (Nat.le_of_ble_eq_true rfl) fun l B J g0 hm hAb hRo hfr => ?_
 have qf0 : PT g0.m wI z0 pf0 := hm ▸ qf0
 have qf1 : PT g0.m wI z1 pf1 := hm ▸ qf1
 show E _ 37 none _ _ (envAt #[.func (.yield l) #[] #[], pf0, pf1]) _ _
 refine E_seq (E_region (EL_do .plain rfl (D_load (g := g0) Try.isAgg38 Try.sizeOf38 rfl qf0 fun v1 r1 => ?_)))
 refine EL_p (.int .i64 ((z0).length : Int)) (P_len Try.underlying38 rfl r1) rfl ?_
 refine EL_mw (.int .i64 (0)) rfl rfl ?_
 refine EL_nil (thn_n (E_block ?_))
 refine E_lp h (fun (s : σ × Int) e w => ∃ (g : Gh) , FrY gI wI B J (s.1) g w ∧ e 0 = (.func (.yield l) #[] #[]) ∧ e 2 = pf1 ∧ PT g.m w (z1 : List Str) pf1 ∧ e 7 = v1 ∧ RV g.m w (z0 : List Str) v1 ∧ e 8 = .int .i64 (((z0).length : Int)) ∧ e 9 = .int .i64 (s.2)) ⟨g0, hfr, rfl, rfl, qf1, rfl, r1, rfl, rfl⟩ (fun X2 k2 hk2 => ?_)
 rintro ⟨o7, u0⟩ zB w3 ⟨g3, hfr, nA, oA, u7, t8, v6, v8, e7⟩ h
 refine E_seq (E_region (EL_in (.bool ((decide (u0 < ((z0).length : Int))))) e7 v8 rfl rfl ?_))
 refine EL_nil (thn_n (E_seq ?_))
 rcases csome h with ⟨x8, h⟩ | ⟨x8, h⟩
 ·refine E_ct x8 rfl ?_
  refine E_skip (thn_n (E_joinC h (fun (s : σ) e w => ∃ (g : Gh) , FrY gI wI B J (s) g w ∧ e 0 = (.func (.yield l) #[] #[]) ∧ e 2 = pf1 ∧ PT g.m w (z1 : List Str) pf1 ∧ e 7 = v1 ∧ RV g.m w (z0 : List Str) v1 ∧ e 8 = .int .i64 (((z0).length : Int)) ∧ e 9 = .int .i64 (u0)) (fun X145 q8 kA h => ?_) ?_))
  ·refine E_block ?_
   refine E_seq (E_region (EL_mv e7 rfl ?_))
   obtain ⟨d3, g8, h⟩ := bsome h
   refine EL_p (ePtr v1 u0 1) (P_indexAddr (α := Str) Try.underlying38 Try.sizeOf9 t8 v6 e7 g8) rfl ?_
   have pA := PT_idx v6 g8
   refine EL_do .plain rfl (D_load (g := g3) Try.isAgg9 Try.sizeOf9 rfl pA fun jB qA => ?_)
   obtain rfl := RV_str.1 qA
   refine EL_at (.int .i64 (u0)) rfl rfl ?_
   refine EL_at (Str.v (d3)) rfl rfl ?_
   refine EL_nil (thn_n (E_seq (E_region (EL_mw (Str.v (d3)) rfl rfl ?_))))
   refine EL_do .plain rfl (D_rangeS (g := g3) (s := d3) 7015 Try.underlying9 rfl fun rA kB g7 hs b149 => ?_)
   have hfr := hfr.stp_ hAb hs rfl
   have u7 := u7.stp hs
   have v6 := v6.stp hs
   refine EL_nil (thn_n (E_block ?_))
   refine E_lp h (fun (s : σ × Nat) e w => ∃ (g : Gh) , FrY gI wI B J (s.1) g w ∧ e 0 = (.func (.yield l) #[] #[]) ∧ e 2 = pf1 ∧ PT g.m w (z1 : List Str) pf1 ∧ e 4 = .int .i64 (u0) ∧ e 5 = Str.v (d3) ∧ e 7 = v1 ∧ RV g.m w (z0 : List Str) v1 ∧ e 8 = .int .i64 (((z0).length : Int)) ∧ e 9 = .int .i64 (u0) ∧ e 15 = g7 ∧ SI 7015 g w (d3) (s.2) g7) ⟨rA, hfr, nA, oA, u7, rfl, rfl, t8, v6, v8, e7, rfl, b149⟩ (fun X150 r8 lA => ?_)
   rintro ⟨z3, o0⟩ dB lB ⟨v7, hfr, t5, i5, j1, l5, x5, x6, z2, y6, a7, q5, b7⟩ h
   refine E_seq (E_region ?_)
   rcases csome h with ⟨i7, h⟩ | ⟨i7, h⟩
   ·refine EL_do .plain rfl (D_nextS_t (g := v7) q5 b7 i7 fun y8 mB hs b152 => ?_)
    have hfr := hfr.stp_ hAb hs rfl
    have j1 := j1.stp hs
    have z2 := z2.stp hs
    refine EL_p (.bool true) (P_extract rfl rfl) rfl ?_
    refine EL_nil (thn_n (E_seq (E_cond_true (by rw [show ev _ _ = _ from rfl]; exact congrArg Value.bool rfl) ?_)))
    refine E_skip (thn_n (E_block ?_))
    refine E_seq (E_region (EL_p (.int .i64 ((o0 : Nat) : Int)) (P_extract rfl rfl) rfl ?_))
    refine EL_at (.int .i64 ((o0 : Nat) : Int)) rfl rfl ?_
    refine EL_nil (thn_n ?_)
    obtain ⟨⟨z4, u3⟩, hx, h⟩ := bsome h
    refine E_join (fun e w => ∃ (g : Gh) , FrY gI wI B J (z4) g w ∧ e 0 = (.func (.yield l) #[] #[]) ∧ e 2 = pf1 ∧ PT g.m w (z1 : List Str) pf1 ∧ e 4 = .int .i64 (u0) ∧ e 5 = Str.v (d3) ∧ e 7 = v1 ∧ RV g.m w (z0 : List Str) v1 ∧ e 8 = .int .i64 (((z0).length : Int)) ∧ e 9 = .int .i64 (u0) ∧ e 15 = g7 ∧ SI 7015 g w (d3) ((o0 + (dec d3 o0).2)) g7 ∧ e 35 = .bool (u3)) (fun Q' hQ => ?_) (fun eB nB hR => ?_)
    ·replace h := hx
     clear hx
     obtain ⟨j3, i8, h⟩ := bsome h
     refine L_load (x := .tmp 2) Try.isAgg38 Try.sizeOf38 j1 fun j7 c8 k8 => ?_
     obtain ⟨d7, m7, h⟩ := bsome h
     have sA := PT_idx c8 m7
     refine L_load (x := .tmp 24) Try.isAgg9 Try.sizeOf9 sA fun oB uA l8 => ?_
     obtain rfl := RV_str.1 uA
     obtain ⟨o3, m8, h⟩ := bsome h
     rcases csome h with ⟨i3, h⟩ | ⟨i3, h⟩
     ·refine E_drawL (g := y8) (n := 14) [] [0, 1, 2, 3, 4, 5, 6, 7, 8, 9, 10, 11, 12, 13] rfl mixed (by kernel_rfl) trivial ?_
      refine L_p (Str.v (d3)) rfl rfl (P_move x5) ?_
      refine L_p (.int .i64 ((o0 : Nat) : Int)) rfl rfl (P_move rfl) ?_
      refine L_p (.int .u8 (UInt8.toNat (j3))) rfl rfl (P_indexS Try.underlying9 rfl rfl i8) ?_
      refine L_ld (c := j7) rfl rfl .plain (fun _ _ h => h.ch) k8 i5 ?_
      refine L_p (.int .i64 (u0)) rfl rfl (P_move l5) ?_
      refine L_p (ePtr j7 u0 1) rfl rfl (P_indexAddr (α := Str) Try.underlying38 Try.sizeOf9 rfl c8 rfl m7) ?_
      refine L_ld (c := Str.v (d7)) rfl rfl .plain (fun _ _ h => h.ch) l8 rfl ?_
      refine L_p (.int .i64 ((o0 : Nat) : Int)) rfl rfl (P_move rfl) ?_
      refine L_p (.int .u8 (UInt8.toNat (o3))) rfl rfl (P_indexS Try.underlying9 rfl rfl m8) ?_
      refine L_p (.bool ((j3 != o3))) rfl rfl (P_u8 rfl rfl rfl) ?_
      refine L_p (.bool ((j3 != o3))) rfl rfl (P_move rfl) ?_
      refine L_y ((.func (.yield l) #[] #[])) rfl rfl rfl rfl i3 (P_move t5) ?_
      refine L_y (.int .i64 (u0)) rfl rfl rfl rfl i3 (P_move l5) ?_
      refine L_y (.int .i64 ((o0 : Nat) : Int)) rfl rfl rfl rfl i3 (P_move rfl) ?_
      refine L_nl fun xA tB hs => ?_
      have hfr := hfr.ext_ hAb hs
      have j1 := j1.ext hs
      have z2 := z2.ext hs
      have b152 := b152.ext hs
      clear hs
      obtain ⟨yA, mA, h⟩ := bsome h
      obtain ⟨i6, e8⟩ := yA
      refine EL_do (.yes2 rfl rfl i3) rfl (D_yield (g := xA) (x := (u0, ((o0 : Nat) : Int))) rfl (.cons rfl (.cons rfl .nil)) hRo hfr mA ⟨_, _, rfl, (RV_int.2 rfl), (RV_int.2 rfl)⟩ fun zA vB hs hfrY => ?_)
      have j1 := j1.stp hs
      have z2 := z2.stp hs
      have b152 := b152.stp hs rfl
      have hfr := hfrY
      clear hfrY
      refine EL_y (.bool (!i6)) (P_not rfl) rfl rfl i3 rfl ?_
      refine EL_p (.bool (!i6)) (P_pick (b := (j3 != o3)) rfl (pick_t i3 rfl)) rfl ?_
      refine EL_nil ?_
      obtain ⟨rfl, rfl⟩ := pairs2 h
      exact hQ _ _ ⟨zA, hfr, t5, i5, j1, l5, x5, x6, z2, y6, a7, q5, b152, rfl⟩
     ·refine E_drawL (g := y8) (n := 14) [] [0, 1, 2, 3, 4, 5, 6, 7, 8, 9, 10, 11, 12, 13] rfl mixed (by kernel_rfl) trivial ?_
      refine L_p (Str.v (d3)) rfl rfl (P_move x5) ?_
      refine L_p (.int .i64 ((o0 : Nat) : Int)) rfl rfl (P_move rfl) ?_
      refine L_p (.int .u8 (UInt8.toNat (j3))) rfl rfl (P_indexS Try.underlying9 rfl rfl i8) ?_
      refine L_ld (c := j7) rfl rfl .plain (fun _ _ h => h.ch) k8 i5 ?_
      refine L_p (.int .i64 (u0)) rfl rfl (P_move l5) ?_
      refine L_p (ePtr j7 u0 1) rfl rfl (P_indexAddr (α := Str) Try.underlying38 Try.sizeOf9 rfl c8 rfl m7) ?_
      refine L_ld (c := Str.v (d7)) rfl rfl .plain (fun _ _ h => h.ch) l8 rfl ?_
      refine L_p (.int .i64 ((o0 : Nat) : Int)) rfl rfl (P_move rfl) ?_
      refine L_p (.int .u8 (UInt8.toNat (o3))) rfl rfl (P_indexS Try.underlying9 rfl rfl m8) ?_
      refine L_p (.bool ((j3 != o3))) rfl rfl (P_u8 rfl rfl rfl) ?_
      refine L_p (.bool ((j3 != o3))) rfl rfl (P_move rfl) ?_
      iterate 3 refine L_s rfl rfl rfl i3 rfl ?_
      refine L_nl fun aB xB hs => ?_
      have hfr := hfr.ext_ hAb hs
      have j1 := j1.ext hs
      have z2 := z2.ext hs
      have b152 := b152.ext hs
      clear hs
      refine EL_s rfl rfl i3 rfl rfl ?_
      refine EL_s rfl rfl i3 rfl rfl ?_
      refine EL_p (.bool false) (P_pick (b := (j3 != o3)) rfl (pick_f i3 rfl)) rfl ?_
      refine EL_nil ?_
      obtain ⟨rfl, rfl⟩ := pairs2 h
      exact hQ _ _ ⟨aB, hfr, t5, i5, j1, l5, x5, x6, z2, y6, a7, q5, b152, rfl⟩
    ·clear hx
     obtain ⟨bB, hfr, a9, d9, e9, i9, k9, l9, n9, o9, t9, n8, o8, c7⟩ := hR
     rcases csome h with ⟨n7, h⟩ | ⟨n7, h⟩
     ·refine E_cond_true (Eq.trans (show ev _ _ = .bool (u3) from c7) (congrArg Value.bool n7)) ?_
      refine E_ret (blk_r ?_)
      refine thn_r ?_
      refine blk_r ?_
      refine blk_r ?_
      refine thn_r ?_
      refine thn_r ?_
      refine blk_r ?_
      obtain rfl := sinj h
      exact end0 rfl rfl (FrY.done hfr)
     ·refine E_cond_false (Eq.trans (show ev _ _ = .bool (u3) from c7) (congrArg Value.bool n7)) ?_
      exact E_skip (blk_n (thn_n (lA (z4, (o0 + (dec d3 o0).2)) _ _ ⟨bB, hfr, a9, d9, e9, i9, k9, l9, n9, o9, t9, n8, o8⟩ h)))
   ·refine EL_do .plain rfl (D_nextS_f (g := v7) q5 b7 i7 ?_)
    refine EL_p (.bool false) (P_extract rfl rfl) rfl ?_
    refine EL_nil (thn_n (E_seq (E_cond_false (by rw [show ev _ _ = _ from rfl]; exact congrArg Value.bool rfl) ?_)))
    refine E_exit ?_
    refine thn_e ?_
    refine thn_e ?_
    refine blk_hit ?_
    exact blk_n (thn_n (kA (z3) _ _ ⟨v7, hfr, t5, i5, j1, x6, z2, y6, a7⟩ h))
  ·rintro j6 iB yB ⟨cB, hfr, u9, y9, z9, bA, gA, iA, jA⟩ h
   refine E_region (EL_in (.int .i64 ((w64 (u0 + (1 : Int))))) jA rfl rfl rfl ?_)
   refine EL_mw (.int .i64 ((w64 (u0 + (1 : Int))))) rfl rfl ?_
   exact EL_nil (thn_n (hk2 (j6, (w64 (u0 + (1 : Int)))) _ _ ⟨cB, hfr, u9, y9, z9, bA, gA, iA, rfl⟩ h))
 ·refine E_cf x8 rfl ?_
  refine E_exit ?_
  refine thn_e ?_
  refine thn_e ?_
  refine blk_hit ?_
  obtain rfl := sinj h
  exact end0n rfl rfl (FrY.done hfr)
def f109 (x0 : SeamTailor) (x1 : Int) (x2 : SeamCut) : Option (Int) :=
 lp (σ := Int) (fun k3 o0 =>
  jn (σ := Int) (fun u3 =>
   k3 ((w64 (u3 + (1 : Int))))
   ) fun dB =>
  (rem64 o0 (x0).repeat_).bind fun n7 =>
  (rem64 (w64 ((w64 ((x2).Begin + (x0).repeat_)) - n7)) (x0).repeat_).bind fun u0 =>
  Option.bind (α := Int) (
   lp (σ := Int × Int) (fun k156 (t5, j1) =>
    bif (decide (j1 < (((x0).bad).length : Int))) then
     Option.bind (α := Int) (
      (idx ((x0).bad) j1).bind fun z2 =>
      Option.bind (α := Bool) (
       bif (decide (z2 ≥ (w64 (o0 + u0)))) then
        some ((decide (z2 < (w64 ((w64 (o0 + u0)) + (x2).Picks)))))
       else
        some (false)
       ) fun o3 =>
      bif o3 then
       some (z2)
      else
       some (t5)
      ) fun x5 =>
     k156 (x5, (w64 (j1 + (1 : Int))))
    else
     some (t5)
    ) big ((-1 : Int), (0 : Int))
   ) fun i3 =>
  jn (σ := Unit) (fun _ =>
   dB (i3)
   ) fun v8 =>
  bif (decide (i3 < (0 : Int))) then
   some ((w64 (o0 + u0)))
  else
   v8 ()
  ) big (x1)
theorem en109 : Enters Try.prog 109 := enters_of Try.func109 (by kernel_rfl) rfl
theorem wk109 {gI : Gh} {wI : World} {x0 : SeamTailor} {x1 : Int} {x2 : SeamCut} {up0 : Value} (rp0 : RV gI.m wI x0 up0) {up2 : Value} (rp2 : RV gI.m wI x2 up2) {r : Int} (h : f109 x0 x1 x2 = some r) : Fn Try.prog 109 #[up0, .int .i64 (x1), up2] gI wI (fun _ _ v => v = .int .i64 (r)) := by
 unfold f109 at h
 refine fn_of_E Try.func109 rfl (Nat.le_of_ble_eq_true rfl) fun g0 hm hfr => ?_
 have rp0 : RV g0.m wI x0 up0 := hm ▸ rp0
 have rp2 : RV g0.m wI x2 up2 := hm ▸ rp2
 show E _ 53 none _ _ _ _ _
 refine E_seq (E_region (EL_do .plain rfl (D_box (g := g0) rfl rp0 fun g1 w1 p1 hs q1 => ?_)))
 have hfr := hfr.ext hs
 have rp2 := rp2.ext hs
 refine EL_do .plain rfl (D_box (g := g1) rfl rp2 fun g2 w2 p2 hs q2 => ?_)
 have hfr := hfr.ext hs
 have q1 := q1.ext hs
 refine EL_at (.int .i64 (0)) rfl rfl ?_
 refine EL_nil (thn_n (E_seq (E_region (EL_mw (.int .i64 (x1)) rfl rfl ?_))))
 refine EL_at (.int .i64 (x1)) rfl rfl ?_
 refine EL_nil (thn_n (E_block ?_))
 refine E_lp h (fun (s : Int) e w => ∃ (g : Gh) , Fr gI wI g w ∧ e 3 = p1 ∧ PT g.m w (x0 : SeamTailor) p1 ∧ e 5 = p2 ∧ PT g.m w (x2 : SeamCut) p2 ∧ e 7 = .int .i64 (s)) ⟨g2, hfr, rfl, q1, rfl, q2, rfl⟩ (fun X3 k3 hk3 => ?_)
 rintro o0 lD w4 ⟨g4, hfr, x6, j3, x8, y6, y8⟩ h
 refine E_joinC h (fun (s : Int) e w => ∃ (g : Gh) , Fr gI wI g w ∧ e 3 = p1 ∧ PT g.m w (x0 : SeamTailor) p1 ∧ e 5 = p2 ∧ PT g.m w (x2 : SeamCut) p2 ∧ e 7 = .int .i64 (s)) (fun X96 dB eB h => ?_) ?_
 ·refine E_block ?_
  refine E_seq ?_
  have eC := PT_field (part_SeamCut_0).1 y6
  refine L_load (x := .tmp 15) Try.isAgg3 Try.sizeOf3 eC fun mD iC iB => ?_
  obtain rfl := RV_int.1 iC
  have jC := PT_field (part_SeamTailor_0).1 j3
  refine L_load (x := .tmp 17) Try.isAgg3 Try.sizeOf3 jC fun uC jB uA => ?_
  obtain rfl := RV_int.1 jB
  have kB := PT_field (part_SeamTailor_0).1 j3
  refine L_load (x := .tmp 21) Try.isAgg3 Try.sizeOf3 kB fun vC lB xA => ?_
  obtain rfl := RV_int.1 lB
  obtain ⟨n7, yA, h⟩ := bsome h
  have mB := PT_field (part_SeamTailor_0).1 j3
  refine L_load (x := .tmp 25) Try.isAgg3 Try.sizeOf3 mB fun xC nB zA => ?_
  obtain rfl := RV_int.1 nB
  obtain ⟨u0, aB, h⟩ := bsome h
  refine E_drawL (g := g4) (n := 16) [] [0, 1, 2, 3, 4, 5, 6, 7, 8, 9, 10, 11, 12, 13, 14, 15] rfl mixed (by kernel_rfl) trivial ?_
  refine L_p (.int .i64 (o0)) rfl rfl (P_move y8) ?_
  refine L_p (fPtr p2 0) rfl rfl (P_fieldAddr at_68_0 x8 (PT.ptr y6)) ?_
  refine L_ld (c := .int .i64 ((x2).Begin)) rfl rfl .plain (fun _ _ h => h.ch) iB rfl ?_
  refine L_p (fPtr p1 0) rfl rfl (P_fieldAddr at_129_0 x6 (PT.ptr j3)) ?_
  refine L_ld (c := .int .i64 ((x0).repeat_)) rfl rfl .plain (fun _ _ h => h.ch) uA rfl ?_
  refine L_p (.int .i64 ((w64 ((x2).Begin + (x0).repeat_)))) rfl rfl (P_int rfl rfl rfl) ?_
  refine L_p (.int .i64 (o0)) rfl rfl (P_move y8) ?_
  refine L_p (fPtr p1 0) rfl rfl (P_fieldAddr at_129_0 x6 (PT.ptr j3)) ?_
  refine L_ld (c := .int .i64 ((x0).repeat_)) rfl rfl .plain (fun _ _ h => h.ch) xA rfl ?_
  refine L_p (.int .i64 (n7)) rfl rfl (P_int rfl rfl (congrArg (Option.map (Value.int .i64)) yA)) ?_
  refine L_p (.int .i64 ((w64 ((w64 ((x2).Begin + (x0).repeat_)) - n7)))) rfl rfl (P_int rfl rfl rfl) ?_
  refine L_p (fPtr p1 0) rfl rfl (P_fieldAddr at_129_0 x6 (PT.ptr j3)) ?_
  refine L_ld (c := .int .i64 ((x0).repeat_)) rfl rfl .plain (fun _ _ h => h.ch) zA rfl ?_
  refine L_p (.int .i64 (u0)) rfl rfl (P_int rfl rfl (congrArg (Option.map (Value.int .i64)) aB)) ?_
  refine L_p (.int .i64 ((w64 (o0 + u0)))) rfl rfl (P_int rfl rfl rfl) ?_
  refine L_p (.int .i64 ((w64 (o0 + u0)))) rfl rfl (P_assign rfl) ?_
  refine L_nl fun a9 yC hs => ?_
  have hfr := hfr.ext hs
  have j3 := j3.ext hs
  have y6 := y6.ext hs
  clear hs
  refine EL_nil (thn_n (E_seq (E_region (EL_at (.int .i64 (-1)) rfl rfl ?_))))
  refine EL_nil (thn_n ?_)
  obtain ⟨i3, hx, h⟩ := bsome h
  refine E_join (fun e w => ∃ (g : Gh) , Fr gI wI g w ∧ e 3 = p1 ∧ PT g.m w (x0 : SeamTailor) p1 ∧ e 5 = p2 ∧ PT g.m w (x2 : SeamCut) p2 ∧ e 7 = .int .i64 ((w64 (o0 + u0))) ∧ e 8 = .int .i64 (i3)) (fun Q' hQ => ?_) (fun kC aD hR => ?_)
  ·replace h := hx
   clear hx
   refine E_seq (E_region (EL_p (fPtr p1 1) (P_fieldAddr at_129_1 x6 (PT.ptr j3)) rfl ?_))
   have oB := PT_field (part_SeamTailor_1).1 j3
   refine EL_do .plain rfl (D_load (g := a9) Try.isAgg26 Try.sizeOf26 rfl oB fun q5 d9 => ?_)
   refine EL_p (.int .i64 (((x0).bad).length : Int)) (P_len Try.underlying26 rfl d9) rfl ?_
   refine EL_mw (.int .i64 (0)) rfl rfl ?_
   refine EL_nil (thn_n (E_block ?_))
   refine E_lp h (fun (s : Int × Int) e w => ∃ (g : Gh) , Fr gI wI g w ∧ e 3 = p1 ∧ PT g.m w (x0 : SeamTailor) p1 ∧ e 5 = p2 ∧ PT g.m w (x2 : SeamCut) p2 ∧ e 7 = .int .i64 ((w64 (o0 + u0))) ∧ e 8 = .int .i64 (s.1) ∧ e 30 = q5 ∧ RV g.m w ((x0).bad : List Int) q5 ∧ e 31 = .int .i64 ((((x0).bad).length : Int)) ∧ e 32 = .int .i64 (s.2)) ⟨a9, hfr, x6, j3, x8, y6, rfl, rfl, rfl, d9, rfl, rfl⟩ (fun X156 k156 bB => ?_)
   rintro ⟨t5, j1⟩ lC bD ⟨a7, hfr, b7, c7, i6, z3, z4, d7, j6, i5, v6, l5⟩ h
   refine E_seq (E_region (EL_p (.bool ((decide (j1 < (((x0).bad).length : Int))))) (P_int l5 v6 rfl) rfl ?_))
   refine EL_nil (thn_n (E_seq ?_))
   rcases csome h with ⟨o7, h⟩ | ⟨o7, h⟩
   ·refine E_ct o7 rfl ?_
    refine E_skip (thn_n ?_)
    obtain ⟨x5, hx, h⟩ := bsome h
    refine E_join (fun e w => ∃ (g : Gh) , Fr gI wI g w ∧ e 3 = p1 ∧ PT g.m w (x0 : SeamTailor) p1 ∧ e 5 = p2 ∧ PT g.m w (x2 : SeamCut) p2 ∧ e 7 = .int .i64 ((w64 (o0 + u0))) ∧ e 8 = .int .i64 (x5) ∧ e 30 = q5 ∧ RV g.m w ((x0).bad : List Int) q5 ∧ e 31 = .int .i64 ((((x0).bad).length : Int)) ∧ e 32 = .int .i64 (j1)) (fun Q' hQ => ?_) (fun mC cD hR => ?_)
    ·replace h := hx
     clear hx
     refine E_block ?_
     refine E_seq (E_region ?_)
     obtain ⟨z2, m8, h⟩ := bsome h
     refine EL_p (ePtr q5 j1 1) (P_indexAddr (α := Int) Try.underlying26 Try.sizeOf3 j6 i5 l5 m8) rfl ?_
     have tB := PT_idx i5 m8
     refine EL_do .plain rfl (D_load (g := a7) Try.isAgg3 Try.sizeOf3 rfl tB fun eD vB => ?_)
     obtain rfl := RV_int.1 vB
     refine EL_at (.int .i64 (z2)) rfl rfl ?_
     refine EL_nil (thn_n ?_)
     obtain ⟨o3, hx, h⟩ := bsome h
     refine E_join (fun e w => ∃ (g : Gh) , Fr gI wI g w ∧ e 3 = p1 ∧ PT g.m w (x0 : SeamTailor) p1 ∧ e 5 = p2 ∧ PT g.m w (x2 : SeamCut) p2 ∧ e 7 = .int .i64 ((w64 (o0 + u0))) ∧ e 8 = .int .i64 (t5) ∧ e 10 = .int .i64 (z2) ∧ e 30 = q5 ∧ RV g.m w ((x0).bad : List Int) q5 ∧ e 31 = .int .i64 ((((x0).bad).length : Int)) ∧ e 32 = .int .i64 (j1) ∧ e 46 = .bool (o3)) (fun Q' hQ => ?_) (fun qC gD hR => ?_)
     ·replace h := hx
      clear hx
      refine E_region (EL_mw (.int .i64 (z2)) rfl rfl ?_)
      refine EL_mv z4 rfl ?_
      refine EL_in (.bool ((decide (z2 ≥ (w64 (o0 + u0)))))) rfl rfl rfl rfl ?_
      refine EL_mw (.bool ((decide (z2 ≥ (w64 (o0 + u0)))))) rfl rfl ?_
      rcases csome h with ⟨d3, h⟩ | ⟨d3, h⟩
      ·refine EL_y (.int .i64 (z2)) (P_move rfl) rfl rfl d3 rfl ?_
       refine EL_y (.int .i64 ((w64 (o0 + u0)))) (P_move z4) rfl rfl d3 rfl ?_
       refine EL_y (fPtr p2 1) (P_fieldAddr at_68_1 i6 (PT.ptr z3)) rfl rfl d3 rfl ?_
       have xB := PT_field (part_SeamCut_1).1 z3
       refine EL_do (.yes2 rfl rfl d3) rfl (D_load (g := a7) Try.isAgg3 Try.sizeOf3 rfl xB fun iD yB => ?_)
       obtain rfl := RV_int.1 yB
       refine EL_y (.int .i64 ((w64 ((w64 (o0 + u0)) + (x2).Picks)))) (P_int rfl rfl rfl) rfl rfl d3 rfl ?_
       refine EL_y (.bool ((decide (z2 < (w64 ((w64 (o0 + u0)) + (x2).Picks)))))) (P_int rfl rfl rfl) rfl rfl d3 rfl ?_
       refine EL_p (.bool ((decide (z2 < (w64 ((w64 (o0 + u0)) + (x2).Picks)))))) (P_pick (b := (decide (z2 ≥ (w64 (o0 + u0))))) rfl (pick_t d3 rfl)) rfl ?_
       refine EL_nil ?_
       obtain rfl := sinj h
       exact hQ _ _ ⟨a7, hfr, b7, c7, i6, z3, z4, d7, rfl, j6, i5, v6, l5, rfl⟩
      ·refine EL_s rfl rfl d3 rfl rfl ?_
       iterate 5 refine EL_s rfl rfl d3 rfl rfl ?_
       refine EL_p (.bool false) (P_pick (b := (decide (z2 ≥ (w64 (o0 + u0))))) rfl (pick_f d3 rfl)) rfl ?_
       refine EL_nil ?_
       obtain rfl := sinj h
       exact hQ _ _ ⟨a7, hfr, b7, c7, i6, z3, z4, d7, rfl, j6, i5, v6, l5, rfl⟩
     ·clear hx
      obtain ⟨e9, hfr, c8, e8, g8, i8, k8, i9, n8, e7, g7, i7, j7, m7⟩ := hR
      rcases csome h with ⟨u7, h⟩ | ⟨u7, h⟩
      ·refine E_cond_true (Eq.trans (show ev _ _ = .bool (o3) from m7) (congrArg Value.bool u7)) ?_
       refine E_region (EL_mv n8 rfl ?_)
       refine EL_at (.int .i64 (z2)) rfl rfl ?_
       refine EL_nil (blk_n ?_)
       obtain rfl := sinj h
       exact hQ _ _ ⟨e9, hfr, c8, e8, g8, i8, k8, rfl, e7, g7, i7, j7⟩
      ·refine E_cond_false (Eq.trans (show ev _ _ = .bool (o3) from m7) (congrArg Value.bool u7)) ?_
       refine E_skip (blk_n ?_)
       obtain rfl := sinj h
       exact hQ _ _ ⟨e9, hfr, c8, e8, g8, i8, k8, i9, e7, g7, i7, j7⟩
    ·clear hx
     obtain ⟨zB, hfr, k9, l9, n9, o9, t9, u9, o8, q8, r8, t8⟩ := hR
     refine E_region (EL_in (.int .i64 ((w64 (j1 + (1 : Int))))) t8 rfl rfl rfl ?_)
     refine EL_mw (.int .i64 ((w64 (j1 + (1 : Int))))) rfl rfl ?_
     exact EL_nil (thn_n (bB (x5, (w64 (j1 + (1 : Int)))) _ _ ⟨zB, hfr, k9, l9, n9, o9, t9, u9, o8, q8, r8, rfl⟩ h))
   ·refine E_cf o7 rfl ?_
    refine E_exit ?_
    refine thn_e ?_
    refine thn_e ?_
    refine blk_hit ?_
    obtain rfl := sinj h
    exact hQ _ _ ⟨a7, hfr, b7, c7, i6, z3, z4, d7⟩
  ·clear hx
   obtain ⟨aC, hfr, y9, z9, bA, gA, iA, l8⟩ := hR
   refine E_joinC h (fun (s : Unit) e w => ∃ (g : Gh) , Fr gI wI g w ∧ e 3 = p1 ∧ PT g.m w (x0 : SeamTailor) p1 ∧ e 5 = p2 ∧ PT g.m w (x2 : SeamCut) p2 ∧ e 8 = .int .i64 (i3)) (fun X184 v8 cB h => ?_) ?_
   ·refine E_seq (E_region (EL_mv l8 rfl ?_))
    refine EL_in (.bool ((decide (i3 < (0 : Int))))) rfl rfl rfl rfl ?_
    refine EL_nil (thn_n ?_)
    rcases csome h with ⟨v7, h⟩ | ⟨v7, h⟩
    ·refine E_ct v7 rfl ?_
     refine E_seq (E_region (EL_mv iA rfl ?_))
     refine EL_at (.int .i64 ((w64 (o0 + u0)))) rfl rfl ?_
     refine EL_nil (thn_n (E_ret (thn_r ?_)))
     refine blk_r ?_
     refine thn_r ?_
     refine thn_r ?_
     refine blk_r ?_
     obtain rfl := sinj h
     exact end1 rfl rfl (show _ = .int .i64 ((w64 (o0 + u0))) from rfl) ⟨_, hfr, rfl⟩
    ·refine E_cf v7 rfl ?_
     exact E_skip (thn_n (cB () _ _ ⟨aC, hfr, y9, z9, bA, gA, l8⟩ h))
   ·rintro _ rC jD ⟨cC, hfr, jA, kA, lA, mA, nA⟩ h
    refine E_region (EL_mv nA rfl ?_)
    refine EL_at (.int .i64 (i3)) rfl rfl ?_
    exact EL_nil (blk_n (thn_n (eB (i3) _ _ ⟨cC, hfr, jA, kA, lA, mA, rfl⟩ h)))
 ·rintro u3 tC kD ⟨dC, hfr, oA, pA, qA, rA, sA⟩ h
  refine E_region (EL_mv sA rfl ?_)
  refine EL_in (.int .i64 ((w64 (u3 + (1 : Int))))) rfl rfl rfl rfl ?_
  refine EL_at (.int .i64 ((w64 (u3 + (1 : Int))))) rfl rfl ?_
  exact EL_nil (thn_n (hk3 ((w64 (u3 + (1 : Int)))) _ _ ⟨dC, hfr, oA, pA, qA, rA, rfl⟩ h))
def f115 (x0 : Span) : Option (Int) :=
 some ((max64 (x0).High (w64 (0 - (x0).Low))))
theorem en115 : Enters Try.prog 115 := enters_of Try.func115 (by kernel_rfl) rfl
theorem wk115 {gI : Gh} {wI : World} {x0 : Span} {up0 : Value} (rp0 : RV gI.m wI x0 up0) {r : Int} (h : f115 x0 = some r) : Fn Try.prog 115 #[up0] gI wI (fun _ _ v => v = .int .i64 (r)) := by
 unfold f115 at h
 refine fn_of_E Try.func115 rfl (Nat.le_of_ble_eq_true rfl) fun g0 hm hfr => ?_
 have rp0 : RV g0.m wI x0 up0 := hm ▸ rp0
 show E _ 9 none _ _ _ _ _
 refine E_seq (E_region (EL_do .plain rfl (D_box (g := g0) rfl rp0 fun g1 w1 p1 hs q1 => ?_)))
 have hfr := hfr.ext hs
 refine EL_at (.int .i64 (0)) rfl rfl ?_
 refine EL_nil (thn_n (E_seq (E_region (EL_p (fPtr p1 1) (P_fieldAddr at_137_1 rfl (PT.ptr q1)) rfl ?_))))
 have q2 := PT_field (part_Span_1).1 q1
 refine EL_do .plain rfl (D_load (g := g1) Try.isAgg3 Try.sizeOf3 rfl q2 fun v3 r3 => ?_)
 obtain rfl := RV_int.1 r3
 refine EL_p (fPtr p1 0) (P_fieldAddr at_137_0 rfl (PT.ptr q1)) rfl ?_
 have q4 := PT_field (part_Span_0).1 q1
 refine EL_do .plain rfl (D_load (g := g1) Try.isAgg3 Try.sizeOf3 rfl q4 fun v5 r5 => ?_)
 obtain rfl := RV_int.1 r5
 refine EL_p (.int .i64 (w64 (0 - (x0).Low))) (P_neg rfl) rfl ?_
 refine EL_p (.int .i64 (max64 (x0).High (w64 (0 - (x0).Low)))) (P_max rfl rfl) rfl ?_
 refine EL_at (.int .i64 (max64 (x0).High (w64 (0 - (x0).Low)))) rfl rfl ?_
 refine EL_nil (thn_n (E_ret ?_))
 obtain rfl := sinj h
 exact end1 rfl rfl (show _ = .int .i64 (max64 (x0).High (w64 (0 - (x0).Low))) from rfl) ⟨_, hfr, rfl⟩
def f116 (x0 : Int) (z0 : Int) (z1 : Int) : Option (Bool) :=
 Option.bind (α := Bool) (
  bif (decide (x0 < z0)) then
   some (true)
  else
   some ((decide (x0 > z1)))
  ) fun o0 =>
 some (o0)
theorem en116 : Enters Try.prog 116 := enters_of Try.func116 (by kernel_rfl) rfl
theorem wk116 {gI : Gh} {wI : World} {x0 : Int} {z0 : Int} {z1 : Int} {pf0 : Value} (qf0 : PT gI.m wI z0 pf0) {pf1 : Value} (qf1 : PT gI.m wI z1 pf1) {r : Bool} (h : f116 x0 z0 z1 = some r) : Fn Try.prog 116 #[.int .i64 (x0), pf0, pf1] gI wI (fun _ _ v => v = .bool (r)) := by
 unfold f116 at h
 refine fn_of_E Try.func116 rfl (Nat.le_of_ble_eq_true rfl) fun g0 hm hfr => ?_
 have qf0 : PT g0.m wI z0 pf0 := hm ▸ qf0
 have qf1 : PT g0.m wI z1 pf1 := hm ▸ qf1
 show E _ 13 none _ _ _ _ _
 refine E_seq (E_region (EL_at (.bool false) rfl rfl ?_))
 refine EL_nil (thn_n ?_)
 obtain ⟨o0, hx, h⟩ := bsome h
 refine E_join (fun e w => ∃ (g : Gh) , Fr gI wI g w ∧ e 4 = .bool (o0)) (fun Q' hQ => ?_) (fun j1 w7 hR => ?_)
 ·replace h := hx
  clear hx
  refine E_region (EL_mw (.int .i64 (x0)) rfl rfl ?_)
  refine EL_do .plain rfl (D_load (g := g0) Try.isAgg3 Try.sizeOf3 rfl qf0 fun v4 r4 => ?_)
  obtain rfl := RV_int.1 r4
  refine EL_in (.bool ((decide (x0 < z0)))) rfl rfl rfl rfl ?_
  refine EL_mw (.bool ((decide (x0 < z0)))) rfl rfl ?_
  rcases csome h with ⟨hc5, h⟩ | ⟨hc5, h⟩
  ·refine EL_s rfl rfl hc5 rfl rfl ?_
   refine EL_s rfl rfl hc5 rfl rfl ?_
   refine EL_s rfl rfl hc5 rfl rfl ?_
   refine EL_p (.bool true) (P_pick (b := (decide (x0 < z0))) rfl (pick_t hc5 rfl)) rfl ?_
   refine EL_at (.bool true) rfl rfl ?_
   refine EL_nil ?_
   obtain rfl := sinj h
   exact hQ _ _ ⟨g0, hfr, rfl⟩
  ·refine EL_y (.int .i64 (x0)) (P_move rfl) rfl rfl hc5 rfl ?_
   refine EL_do (.yes2 rfl rfl hc5) rfl (D_load (g := g0) Try.isAgg3 Try.sizeOf3 rfl qf1 fun v6 r6 => ?_)
   obtain rfl := RV_int.1 r6
   refine EL_y (.bool ((decide (x0 > z1)))) (P_int rfl rfl rfl) rfl rfl hc5 rfl ?_
   refine EL_p (.bool ((decide (x0 > z1)))) (P_pick (b := (decide (x0 < z0))) rfl (pick_f hc5 rfl)) rfl ?_
   refine EL_at (.bool ((decide (x0 > z1)))) rfl rfl ?_
   refine EL_nil ?_
   obtain rfl := sinj h
   exact hQ _ _ ⟨g0, hfr, rfl⟩
 ·clear hx
  obtain ⟨g7, hfr, u0⟩ := hR
  refine E_ret ?_
  obtain rfl := sinj h
  exact end1 rfl rfl (show _ = .bool (o0) from u0) ⟨_, hfr, rfl⟩
def f123 (x0 : Bool) : Option (UInt8) :=
 jn (σ := Unit) (fun _ =>
  some ((46 : UInt8))
  ) fun k2 =>
 bif x0 then
  some ((120 : UInt8))
 else
  k2 ()
theorem en123 : Enters Try.prog 123 := enters_of Try.func123 (by kernel_rfl) rfl
theorem wk123 {gI : Gh} {wI : World} {x0 : Bool}  {r : UInt8} (h : f123 x0 = some r) : Fn Try.prog 123 #[.bool (x0)] gI wI (fun _ _ v => v = .int .u8 (UInt8.toNat (r))) := by
 unfold f123 at h
 refine fn_of_E Try.func123 rfl (Nat.le_of_ble_eq_true rfl) fun g0 hm hfr => ?_
 show E _ 4 none _ _ _ _ _
 refine E_seq (E_region (EL_at (.int .u8 (UInt8.toNat 0)) rfl rfl ?_))
 refine EL_nil (thn_n (E_joinC h (fun (s : Unit) e w => ∃ (g : Gh) , Fr gI wI g w) (fun X2 k2 hk2 h => ?_) ?_))
 ·refine E_seq (E_region (EL_mw (.bool (x0)) rfl rfl ?_))
  refine EL_nil (thn_n ?_)
  rcases csome h with ⟨hc3, h⟩ | ⟨hc3, h⟩
  ·refine E_ct hc3 rfl ?_
   refine E_seq (E_region (EL_at (.int .u8 (UInt8.toNat 120)) rfl rfl ?_))
   refine EL_nil (thn_n (E_ret (thn_r ?_)))
   obtain rfl := sinj h
   exact end1 rfl rfl (show _ = .int .u8 (UInt8.toNat 120) from rfl) ⟨_, hfr, rfl⟩
  ·refine E_cf hc3 rfl ?_
   exact E_skip (thn_n (hk2 () _ _ ⟨g0, hfr⟩ h))
 ·rintro _ o0 w4 ⟨g4, hfr⟩ h
  refine E_seq (E_region (EL_at (.int .u8 (UInt8.toNat 46)) rfl rfl ?_))
  refine EL_nil (thn_n (E_ret ?_))
  obtain rfl := sinj h
  exact end1 rfl rfl (show _ = .int .u8 (UInt8.toNat 46) from rfl) ⟨_, hfr, rfl⟩
def f124 (x0 : TieTieHarness) (x1 : Int) (x2 : Int) : Option (Bool) :=
 (idx (((x0).TieHarness).Warps) x2).bind fun y5 =>
 (shr64 x1 y5).bind fun y8 =>
 some (((bit64 .and y8 (1 : Int)) == (1 : Int)))
theorem en124 : Enters Try.prog 124 := enters_of Try.func124 (by kernel_rfl) rfl
theorem wk124 {gI : Gh} {wI : World} {x0 : TieTieHarness} {x1 : Int} {x2 : Int} {up0 : Value} (rp0 : RV gI.m wI x0 up0) {r : Bool} (h : f124 x0 x1 x2 = some r) : Fn Try.prog 124 #[up0, .int .i64 (x1), .int .i64 (x2)] gI wI (fun _ _ v => v = .bool (r)) := by
 unfold f124 at h
 refine fn_of_E Try.func124 rfl (Nat.le_of_ble_eq_true rfl) fun g0 hm hfr => ?_
 have rp0 : RV g0.m wI x0 up0 := hm ▸ rp0
 show E _ 17 none _ _ _ _ _
 refine E_seq (E_region (EL_do .plain rfl (D_box (g := g0) rfl rp0 fun g1 w1 p1 hs q1 => ?_)))
 have hfr := hfr.ext hs
 refine EL_at (.bool false) rfl rfl ?_
 refine EL_nil (thn_n (E_seq (E_region (EL_mw (.int .i64 (x1)) rfl rfl ?_))))
 refine EL_p (fPtr p1 0) (P_fieldAddr at_155_0 rfl (PT.ptr q1)) rfl ?_
 have q2 := PT_field (part_TieTieHarness_0).1 q1
 refine EL_p (fPtr (fPtr p1 0) 1) (P_fieldAddr at_28_1 rfl (PT.ptr q2)) rfl ?_
 have q3 := PT_field (part_TieHarness_1).1 q2
 refine EL_do .plain rfl (D_load (g := g1) Try.isAgg26 Try.sizeOf26 rfl q3 fun v4 r4 => ?_)
 refine EL_mw (.int .i64 (x2)) rfl rfl ?_
 obtain ⟨y5, hy5, h⟩ := bsome h
 refine EL_p (ePtr v4 x2 1) (P_indexAddr (α := Int) Try.underlying26 Try.sizeOf3 rfl r4 rfl hy5) rfl ?_
 have q6 := PT_idx r4 hy5
 refine EL_do .plain rfl (D_load (g := g1) Try.isAgg3 Try.sizeOf3 rfl q6 fun v7 r7 => ?_)
 obtain rfl := RV_int.1 r7
 obtain ⟨y8, o0, h⟩ := bsome h
 refine EL_p (.int .i64 (y8)) (P_int rfl rfl (congrArg (Option.map (Value.int .i64)) o0)) rfl ?_
 refine EL_in (.int .i64 ((bit64 .and y8 (1 : Int)))) rfl rfl rfl rfl ?_
 refine EL_in (.bool (((bit64 .and y8 (1 : Int)) == (1 : Int)))) rfl rfl rfl rfl ?_
 refine EL_at (.bool (((bit64 .and y8 (1 : Int)) == (1 : Int)))) rfl rfl ?_
 refine EL_nil (thn_n (E_ret ?_))
 obtain rfl := sinj h
 exact end1 rfl rfl (show _ = .bool (((bit64 .and y8 (1 : Int)) == (1 : Int))) from rfl) ⟨_, hfr, rfl⟩
def f140 (x0 : FaultFaultLoom) (x1 : FaultDamage) (x2 : List Int) : Option ((List Int)) :=
 (idx x2 (x1).Pick).bind fun y5 =>
 (shl64 (1 : Int) (x1).Hook).bind fun y9 =>
 (idx x2 (x1).Pick).bind fun j1 =>
 some ((List.set x2 (Int.toNat (x1).Pick) ((bit64 .xor y5 y9))))
theorem en140 : Enters Try.prog 140 := enters_of Try.func140 (by kernel_rfl) rfl
theorem wk140 {iI : Nat} {gI : Gh} {wI : World} {x0 : FaultFaultLoom} {x1 : FaultDamage} {x2 : List Int} {up0 : Value} (rp0 : RV gI.m wI x0 up0) {up1 : Value} (rp1 : RV gI.m wI x1 up1) {up2 : Value} (mp2 : OM iI gI wI 3 x2 up2) {up3 : Value} {r : (List Int)} (h : f140 x0 x1 x2 = some r) : FnM Try.prog 140 #[up0, up1, up2, up3] iI gI wI (fun g w v => v = .tuple #[] ∧ OM iI g w 3 r up2) := by
 unfold f140 at h
 refine fnM_of_E Try.func140 rfl (Nat.le_of_ble_eq_true rfl) fun g0 hm hfr => ?_
 have u0 := mp2
 replace mp2 := mp2.enter
 rw [← hm] at mp2
 replace hm : g0.m = gI.m := by rw [hm]
 have rp0 : RV g0.m wI x0 up0 := hm ▸ rp0
 have rp1 : RV g0.m wI x1 up1 := hm ▸ rp1
 show E _ 18 none _ _ _ _ _
 refine E_seq (E_region (EL_do .plain rfl (D_box (g := g0) rfl rp0 fun g1 w1 p1 hs q1 => ?_)))
 have hfr := hfr.ext hs
 have rp1 := rp1.ext hs
 have mp2 := mp2.ext hs
 refine EL_do .plain rfl (D_box (g := g1) rfl rp1 fun g2 w2 p2 hs q2 => ?_)
 have hfr := hfr.ext hs
 have mp2 := mp2.ext hs
 refine EL_nil (thn_n ?_)
 have q3 := PT_field (part_FaultDamage_1).1 q2
 refine L_load (x := .tmp 9) Try.isAgg3 Try.sizeOf3 q3 fun v4 r4 z2 => ?_
 obtain rfl := RV_int.1 r4
 obtain ⟨y5, hy5, h⟩ := bsome h
 refine L_loadM (x := .tmp 11) Try.isAgg3 Try.sizeOf3 mp2 hy5 fun v6 r6 d3 => ?_
 obtain rfl := RV_int.1 r6
 have q7 := PT_field (part_FaultDamage_2).1 q2
 refine L_load (x := .tmp 13) Try.isAgg3 Try.sizeOf3 q7 fun v8 r8 i3 => ?_
 obtain rfl := RV_int.1 r8
 obtain ⟨y9, j3, h⟩ := bsome h
 obtain ⟨j1, o0, h⟩ := bsome h
 refine E_drawL (g := g2) (n := 10) [] [0, 1, 2, 3, 4, 5, 6, 7, 8, 9] rfl mixed (by kernel_rfl) trivial ?_
 refine L_p up2 rfl rfl (P_move rfl) ?_
 refine L_p (fPtr p2 1) rfl rfl (P_fieldAddr at_37_1 rfl (PT.ptr q2)) ?_
 refine L_ld (c := .int .i64 ((x1).Pick)) rfl rfl .plain (fun _ _ h => h.ch) z2 rfl ?_
 refine L_p (ePtr up2 (x1).Pick 1) rfl rfl (P_indexAddrM (α := Int) Try.underlying26 Try.sizeOf3 rfl mp2 rfl hy5) ?_
 refine L_ld (c := .int .i64 (y5)) rfl rfl .plain (fun _ _ h => ⟨h.ch, fun b hb _ => h.below.block b hb⟩) d3 rfl ?_
 refine L_p (fPtr p2 2) rfl rfl (P_fieldAddr at_37_2 rfl (PT.ptr q2)) ?_
 refine L_ld (c := .int .i64 ((x1).Hook)) rfl rfl .plain (fun _ _ h => h.ch) i3 rfl ?_
 refine L_p (.int .i64 (y9)) rfl rfl (P_int rfl rfl (congrArg (Option.map (Value.int .i64)) j3)) ?_
 refine L_p (.int .i64 ((bit64 .xor y5 y9))) rfl rfl (P_int rfl rfl rfl) ?_
 refine L_p (ePtr up2 (x1).Pick 1) rfl rfl (P_indexAddrM (α := Int) Try.underlying26 Try.sizeOf3 rfl mp2 rfl o0) ?_
 refine L_nl fun o3 u3 hs => ?_
 have hfr := hfr.ext hs
 have mp2 := mp2.ext hs
 clear hs
 refine EL_do .plain rfl (D_storeM (g := o3) (α := Int) (a' := ((bit64 .xor y5 y9))) Try.sizeOf3 rfl mp2 o0 rfl (RV_int.2 rfl) fun z3 z4 hs b28 => ?_)
 have hfr := hfr.stp hs
 refine EL_nil ?_
 obtain rfl := sinj h
 exact end0n rfl rfl ⟨_, hfr, rfl, u0.back b28⟩
def f141 (x0 : FaultFaultLoom) (x1 : FaultDamage) (x2 : List Int) : Option ((List Int)) :=
 lp (σ := (List Int) × Int) (fun k3 (j1, o0) =>
  bif (decide (o0 < ((x2).length : Int))) then
   Option.bind (α := (List Int)) (
    (idx j1 o0).bind fun y70 =>
    (shl64 (1 : Int) (x1).Hook).bind fun y74 =>
    (idx j1 o0).bind fun e8 =>
    bif (!(x1).Up) then
     (idx ((List.set j1 (Int.toNat o0) ((bit64 .or y70 y74)))) o0).bind fun z4 =>
     (shl64 (1 : Int) (x1).Hook).bind fun j3 =>
     (idx ((List.set j1 (Int.toNat o0) ((bit64 .or y70 y74)))) o0).bind fun g7 =>
     some ((List.set ((List.set j1 (Int.toNat o0) ((bit64 .or y70 y74)))) (Int.toNat o0) ((bit64 .xor z4 j3))))
    else
     some ((List.set j1 (Int.toNat o0) ((bit64 .or y70 y74))))
    ) fun d3 =>
   k3 (d3, (w64 (o0 + (1 : Int))))
  else
   some (j1)
  ) big (x2, (0 : Int))
theorem en141 : Enters Try.prog 141 := enters_of Try.func141 (by kernel_rfl) rfl
theorem wk141 {iI : Nat} {gI : Gh} {wI : World} {x0 : FaultFaultLoom} {x1 : FaultDamage} {x2 : List Int} {up0 : Value} (rp0 : RV gI.m wI x0 up0) {up1 : Value} (rp1 : RV gI.m wI x1 up1) {up2 : Value} (mp2 : OM iI gI wI 3 x2 up2) {up3 : Value} {r : (List Int)} (h : f141 x0 x1 x2 = some r) : FnM Try.prog 141 #[up0, up1, up2, up3] iI gI wI (fun g w v => v = .tuple #[] ∧ OM iI g w 3 r up2) := by
 unfold f141 at h
 refine fnM_of_E Try.func141 rfl (Nat.le_of_ble_eq_true rfl) fun g0 hm hfr => ?_
 have c7 := mp2
 replace mp2 := mp2.enter
 rw [← hm] at mp2
 replace hm : g0.m = gI.m := by rw [hm]
 have rp0 : RV g0.m wI x0 up0 := hm ▸ rp0
 have rp1 : RV g0.m wI x1 up1 := hm ▸ rp1
 show E _ 36 none _ _ _ _ _
 refine E_seq (E_region (EL_do .plain rfl (D_box (g := g0) rfl rp0 fun g1 w1 p1 hs q1 => ?_)))
 have hfr := hfr.ext hs
 have rp1 := rp1.ext hs
 have mp2 := mp2.ext hs
 refine EL_do .plain rfl (D_box (g := g1) rfl rp1 fun g2 w2 p2 hs q2 => ?_)
 have hfr := hfr.ext hs
 have mp2 := mp2.ext hs
 refine EL_nil (thn_n (E_seq (E_region (EL_mw up2 rfl rfl ?_))))
 refine EL_p (.int .i64 ((x2).length : Int)) (P_lenM Try.underlying26 rfl mp2) rfl ?_
 refine EL_mw (.int .i64 (0)) rfl rfl ?_
 refine EL_nil (thn_n (E_block ?_))
 refine E_lp h (fun (s : (List Int) × Int) e w => ∃ (g : Gh) , FrM iI gI wI g w ∧ e 2 = up2 ∧ OM 1 g w 3 (s.1 : List Int) up2 ∧ e 5 = p2 ∧ PT g.m w (x1 : FaultDamage) p2 ∧ e 10 = .int .i64 (((x2).length : Int)) ∧ e 11 = .int .i64 (s.2)) ⟨g2, hfr, rfl, mp2, rfl, q2, rfl, rfl⟩ (fun X3 k3 hk3 => ?_)
 rintro ⟨j1, o0⟩ a9 w4 ⟨g4, hfr, u3, z2, o3, u0, z3, i3⟩ h
 refine E_seq (E_region (EL_in (.bool ((decide (o0 < ((x2).length : Int))))) i3 z3 rfl rfl ?_))
 refine EL_nil (thn_n (E_seq ?_))
 rcases csome h with ⟨hc5, h⟩ | ⟨hc5, h⟩
 ·refine E_ct hc5 rfl ?_
  refine E_skip (thn_n ?_)
  obtain ⟨d3, hx, h⟩ := bsome h
  refine E_join (fun e w => ∃ (g : Gh) , FrM iI gI wI g w ∧ e 2 = up2 ∧ OM 1 g w 3 (d3 : List Int) up2 ∧ e 5 = p2 ∧ PT g.m w (x1 : FaultDamage) p2 ∧ e 10 = .int .i64 (((x2).length : Int)) ∧ e 11 = .int .i64 (o0)) (fun Q' hQ => ?_) (fun r8 t8 hR => ?_)
  ·replace h := hx
   clear hx
   refine E_block ?_
   refine E_seq (E_region (EL_mv i3 rfl ?_))
   refine EL_at (.int .i64 (o0)) rfl rfl ?_
   refine EL_nil (thn_n (E_seq ?_))
   obtain ⟨y70, x5, h⟩ := bsome h
   refine L_loadM (x := .tmp 16) Try.isAgg3 Try.sizeOf3 z2 x5 fun d9 g8 i7 => ?_
   obtain rfl := RV_int.1 g8
   have i8 := PT_field (part_FaultDamage_2).1 u0
   refine L_load (x := .tmp 18) Try.isAgg3 Try.sizeOf3 i8 fun e9 k8 j7 => ?_
   obtain rfl := RV_int.1 k8
   obtain ⟨y74, m7, h⟩ := bsome h
   obtain ⟨e8, i6, h⟩ := bsome h
   refine E_drawL (g := g4) (n := 9) [] [0, 1, 2, 3, 4, 5, 6, 7, 8] rfl mixed (by kernel_rfl) trivial ?_
   refine L_p up2 rfl rfl (P_move u3) ?_
   refine L_p (.int .i64 (o0)) rfl rfl (P_move rfl) ?_
   refine L_p (ePtr up2 o0 1) rfl rfl (P_indexAddrM (α := Int) Try.underlying26 Try.sizeOf3 rfl z2 rfl x5) ?_
   refine L_ld (c := .int .i64 (y70)) rfl rfl .plain (fun _ _ h => ⟨h.ch, fun b hb _ => h.below.block b hb⟩) i7 rfl ?_
   refine L_p (fPtr p2 2) rfl rfl (P_fieldAddr at_37_2 o3 (PT.ptr u0)) ?_
   refine L_ld (c := .int .i64 ((x1).Hook)) rfl rfl .plain (fun _ _ h => h.ch) j7 rfl ?_
   refine L_p (.int .i64 (y74)) rfl rfl (P_int rfl rfl (congrArg (Option.map (Value.int .i64)) m7)) ?_
   refine L_p (.int .i64 ((bit64 .or y70 y74))) rfl rfl (P_int rfl rfl rfl) ?_
   refine L_p (ePtr up2 o0 1) rfl rfl (P_indexAddrM (α := Int) Try.underlying26 Try.sizeOf3 rfl z2 rfl i6) ?_
   refine L_nl fun l8 i9 hs => ?_
   have hfr := hfr.ext hs
   have z2 := z2.ext hs
   have u0 := u0.ext hs
   clear hs
   refine EL_do .plain rfl (D_storeM (g := l8) (α := Int) (a' := ((bit64 .or y70 y74))) Try.sizeOf3 rfl z2 i6 rfl (RV_int.2 rfl) fun j6 k9 hs b93 => ?_)
   have hfr := hfr.stp hs
   have u0 := u0.stp hs
   refine EL_nil (thn_n (E_seq (E_region (EL_p (fPtr p2 4) (P_fieldAddr at_37_4 o3 (PT.ptr u0)) rfl ?_))))
   have m8 := PT_field (part_FaultDamage_4).1 u0
   refine EL_do .plain rfl (D_load (g := j6) Try.isAgg4 Try.sizeOf4 rfl m8 fun l9 n8 => ?_)
   obtain rfl := RV_bool.1 n8
   refine EL_p (.bool (!(x1).Up)) (P_not rfl) rfl ?_
   refine EL_nil (thn_n ?_)
   rcases csome h with ⟨i5, h⟩ | ⟨i5, h⟩
   ·refine E_ct i5 rfl ?_
    obtain ⟨z4, v6, h⟩ := bsome h
    refine L_loadM (x := .tmp 28) Try.isAgg3 Try.sizeOf3 b93 v6 fun n9 o8 n7 => ?_
    obtain rfl := RV_int.1 o8
    have q8 := PT_field (part_FaultDamage_2).1 u0
    refine L_load (x := .tmp 30) Try.isAgg3 Try.sizeOf3 q8 fun v8 o7 d7 => ?_
    obtain rfl := RV_int.1 o7
    obtain ⟨j3, e7, h⟩ := bsome h
    obtain ⟨g7, l5, h⟩ := bsome h
    refine E_drawL (g := j6) (n := 9) [] [0, 1, 2, 3, 4, 5, 6, 7, 8] rfl mixed (by kernel_rfl) trivial ?_
    refine L_p up2 rfl rfl (P_move u3) ?_
    refine L_p (.int .i64 (o0)) rfl rfl (P_move rfl) ?_
    refine L_p (ePtr up2 o0 1) rfl rfl (P_indexAddrM (α := Int) Try.underlying26 Try.sizeOf3 rfl b93 rfl v6) ?_
    refine L_ld (c := .int .i64 (z4)) rfl rfl .plain (fun _ _ h => ⟨h.ch, fun b hb _ => h.below.block b hb⟩) n7 rfl ?_
    refine L_p (fPtr p2 2) rfl rfl (P_fieldAddr at_37_2 o3 (PT.ptr u0)) ?_
    refine L_ld (c := .int .i64 ((x1).Hook)) rfl rfl .plain (fun _ _ h => h.ch) d7 rfl ?_
    refine L_p (.int .i64 (j3)) rfl rfl (P_int rfl rfl (congrArg (Option.map (Value.int .i64)) e7)) ?_
    refine L_p (.int .i64 ((bit64 .xor z4 j3))) rfl rfl (P_int rfl rfl rfl) ?_
    refine L_p (ePtr up2 o0 1) rfl rfl (P_indexAddrM (α := Int) Try.underlying26 Try.sizeOf3 rfl b93 rfl l5) ?_
    refine L_nl fun u7 x8 hs => ?_
    have hfr := hfr.ext hs
    have b93 := b93.ext hs
    have u0 := u0.ext hs
    clear hs
    refine EL_do .plain rfl (D_storeM (g := u7) (α := Int) (a' := ((bit64 .xor z4 j3))) Try.sizeOf3 rfl b93 l5 rfl (RV_int.2 rfl) fun v7 y8 hs b132 => ?_)
    have hfr := hfr.stp hs
    have u0 := u0.stp hs
    refine EL_nil (blk_n ?_)
    obtain rfl := sinj h
    exact hQ _ _ ⟨v7, hfr, u3, b132, o3, u0, z3, i3⟩
   ·refine E_cf i5 rfl ?_
    refine E_skip (blk_n ?_)
    obtain rfl := sinj h
    exact hQ _ _ ⟨j6, hfr, u3, b93, o3, u0, z3, i3⟩
  ·clear hx
   obtain ⟨c8, hfr, x6, y6, a7, b7, q5, t5⟩ := hR
   refine E_region (EL_in (.int .i64 ((w64 (o0 + (1 : Int))))) t5 rfl rfl rfl ?_)
   refine EL_mw (.int .i64 ((w64 (o0 + (1 : Int))))) rfl rfl ?_
   exact EL_nil (thn_n (hk3 (d3, (w64 (o0 + (1 : Int)))) _ _ ⟨c8, hfr, x6, y6, a7, b7, q5, rfl⟩ h))
 ·refine E_cf hc5 rfl ?_
  refine E_exit ?_
  refine thn_e ?_
  refine thn_e ?_
  refine blk_hit ?_
  obtain rfl := sinj h
  exact end0n rfl rfl ⟨_, hfr, rfl, c7.back z2⟩
def f142 (x0 : FaultFaultLoom) (x1 : FaultDamage) (x2 : List Int) : Option ((List Int)) :=
 Option.bind (α := Int) (
  lp (σ := Int × Int) (fun n7 (o3, o0) =>
   bif (decide (o0 < (((x0).FaultLoom).Design).Hooks)) then
    Option.bind (α := Int) (
     (shl64 o3 (1 : Int)).bind fun z4 =>
     (idx x2 (x1).Pick).bind fun o7 =>
     (shr64 o7 o0).bind fun j3 =>
     some ((bit64 .or z4 (bit64 .and j3 (1 : Int))))
     ) fun u0 =>
    n7 (u0, (w64 (o0 + (1 : Int))))
   else
    some (o3)
   ) big ((0 : Int), (0 : Int))
  ) fun j1 =>
 (idx x2 (x1).Pick).bind fun k8 =>
 some ((List.set x2 (Int.toNat (x1).Pick) j1))
theorem en142 : Enters Try.prog 142 := enters_of Try.func142 (by kernel_rfl) rfl
theorem wk142 {iI : Nat} {gI : Gh} {wI : World} {x0 : FaultFaultLoom} {x1 : FaultDamage} {x2 : List Int} {up0 : Value} (rp0 : RV gI.m wI x0 up0) {up1 : Value} (rp1 : RV gI.m wI x1 up1) {up2 : Value} (mp2 : OM iI gI wI 3 x2 up2) {up3 : Value} {r : (List Int)} (h : f142 x0 x1 x2 = some r) : FnM Try.prog 142 #[up0, up1, up2, up3] iI gI wI (fun g w v => v = .tuple #[] ∧ OM iI g w 3 r up2) := by
 unfold f142 at h
 refine fnM_of_E Try.func142 rfl (Nat.le_of_ble_eq_true rfl) fun g0 hm hfr => ?_
 have a7 := mp2
 replace mp2 := mp2.enter
 rw [← hm] at mp2
 replace hm : g0.m = gI.m := by rw [hm]
 have rp0 : RV g0.m wI x0 up0 := hm ▸ rp0
 have rp1 : RV g0.m wI x1 up1 := hm ▸ rp1
 show E _ 34 none _ _ _ _ _
 refine E_seq (E_region (EL_do .plain rfl (D_box (g := g0) rfl rp0 fun g1 w1 p1 hs q1 => ?_)))
 have hfr := hfr.ext hs
 have rp1 := rp1.ext hs
 have mp2 := mp2.ext hs
 refine EL_do .plain rfl (D_box (g := g1) rfl rp1 fun g2 w2 p2 hs q2 => ?_)
 have hfr := hfr.ext hs
 have mp2 := mp2.ext hs
 have q1 := q1.ext hs
 refine EL_nil (thn_n (E_seq (E_region (EL_at (.int .i64 (0)) rfl rfl ?_))))
 refine EL_nil (thn_n ?_)
 obtain ⟨j1, hx, h⟩ := bsome h
 refine E_join (fun e w => ∃ (g : Gh) , FrM iI gI wI g w ∧ e 2 = up2 ∧ OM 1 g w 3 (x2 : List Int) up2 ∧ e 5 = p2 ∧ PT g.m w (x1 : FaultDamage) p2 ∧ e 8 = .int .i64 (j1)) (fun Q' hQ => ?_) (fun x8 d9 hR => ?_)
 ·replace h := hx
  clear hx
  refine E_seq (E_region (EL_p (fPtr p1 0) (P_fieldAddr at_104_0 rfl (PT.ptr q1)) rfl ?_))
  have u7 := PT_field (part_FaultFaultLoom_0).1 q1
  refine EL_p (fPtr (fPtr p1 0) 2) (P_fieldAddr at_32_1 rfl (PT.ptr u7)) rfl ?_
  have v7 := PT_field (part_FaultLoom_1).1 u7
  refine EL_p (fPtr (fPtr (fPtr p1 0) 2) 0) (P_fieldAddr at_30_0 rfl (PT.ptr v7)) rfl ?_
  have l8 := PT_field (part_Design_0).1 v7
  refine EL_do .plain rfl (D_load (g := g2) Try.isAgg3 Try.sizeOf3 rfl l8 fun e9 m8 => ?_)
  obtain rfl := RV_int.1 m8
  refine EL_mw (.int .i64 (0)) rfl rfl ?_
  refine EL_nil (thn_n (E_block ?_))
  refine E_lp h (fun (s : Int × Int) e w => ∃ (g : Gh) , FrM iI gI wI g w ∧ e 2 = up2 ∧ OM 1 g w 3 (x2 : List Int) up2 ∧ e 5 = p2 ∧ PT g.m w (x1 : FaultDamage) p2 ∧ e 8 = .int .i64 (s.1) ∧ e 13 = .int .i64 ((((x0).FaultLoom).Design).Hooks) ∧ e 14 = .int .i64 (s.2)) ⟨g2, hfr, rfl, mp2, rfl, q2, rfl, rfl, rfl⟩ (fun X27 n7 e8 => ?_)
  rintro ⟨o3, o0⟩ y8 i9 ⟨q5, hfr, u3, z2, z3, d3, t5, i5, i3⟩ h
  refine E_seq (E_region (EL_p (.bool ((decide (o0 < (((x0).FaultLoom).Design).Hooks)))) (P_int i3 i5 rfl) rfl ?_))
  refine EL_nil (thn_n (E_seq ?_))
  rcases csome h with ⟨l5, h⟩ | ⟨l5, h⟩
  ·refine E_ct l5 rfl ?_
   refine E_skip (thn_n ?_)
   obtain ⟨u0, hx, h⟩ := bsome h
   refine E_join (fun e w => ∃ (g : Gh) , FrM iI gI wI g w ∧ e 2 = up2 ∧ OM 1 g w 3 (x2 : List Int) up2 ∧ e 5 = p2 ∧ PT g.m w (x1 : FaultDamage) p2 ∧ e 8 = .int .i64 (u0) ∧ e 13 = .int .i64 ((((x0).FaultLoom).Design).Hooks) ∧ e 14 = .int .i64 (o0)) (fun Q' hQ => ?_) (fun a9 k9 hR => ?_)
   ·replace h := hx
    clear hx
    refine E_block ?_
    refine E_seq (E_region (EL_mv i3 rfl ?_))
    refine EL_at (.int .i64 (o0)) rfl rfl ?_
    refine EL_nil (thn_n (E_region (EL_mv t5 rfl ?_)))
    obtain ⟨z4, g8, h⟩ := bsome h
    refine EL_p (.int .i64 (z4)) (P_shlu rfl rfl g8) rfl ?_
    refine EL_mv u3 rfl ?_
    refine EL_p (fPtr p2 1) (P_fieldAddr at_37_1 z3 (PT.ptr d3)) rfl ?_
    have n8 := PT_field (part_FaultDamage_1).1 d3
    refine EL_do .plain rfl (D_load (g := q5) Try.isAgg3 Try.sizeOf3 rfl n8 fun l9 o8 => ?_)
    obtain rfl := RV_int.1 o8
    obtain ⟨o7, j6, h⟩ := bsome h
    refine EL_p (ePtr up2 (x1).Pick 1) (P_indexAddrM (α := Int) Try.underlying26 Try.sizeOf3 rfl z2 rfl j6) rfl ?_
    refine EL_do .plain rfl (D_loadM (g := q5) Try.isAgg3 Try.sizeOf3 rfl z2 j6 fun n9 q8 => ?_)
    obtain rfl := RV_int.1 q8
    refine EL_mw (.int .i64 (o0)) rfl rfl ?_
    obtain ⟨j3, i8, h⟩ := bsome h
    refine EL_p (.int .i64 (j3)) (P_int rfl rfl (congrArg (Option.map (Value.int .i64)) i8)) rfl ?_
    refine EL_in (.int .i64 ((bit64 .and j3 (1 : Int)))) rfl rfl rfl rfl ?_
    refine EL_in (.int .i64 ((bit64 .or z4 (bit64 .and j3 (1 : Int))))) rfl rfl rfl rfl ?_
    refine EL_at (.int .i64 ((bit64 .or z4 (bit64 .and j3 (1 : Int))))) rfl rfl ?_
    refine EL_nil (blk_n ?_)
    obtain rfl := sinj h
    exact hQ _ _ ⟨q5, hfr, u3, z2, z3, d3, rfl, i5, i3⟩
   ·clear hx
    obtain ⟨r8, hfr, b7, c7, d7, e7, g7, v6, x6⟩ := hR
    refine E_region (EL_in (.int .i64 ((w64 (o0 + (1 : Int))))) x6 rfl rfl rfl ?_)
    refine EL_mw (.int .i64 ((w64 (o0 + (1 : Int))))) rfl rfl ?_
    exact EL_nil (thn_n (e8 (u0, (w64 (o0 + (1 : Int)))) _ _ ⟨r8, hfr, b7, c7, d7, e7, g7, v6, rfl⟩ h))
  ·refine E_cf l5 rfl ?_
   refine E_exit ?_
   refine thn_e ?_
   refine thn_e ?_
   refine blk_hit ?_
   obtain rfl := sinj h
   exact hQ _ _ ⟨q5, hfr, u3, z2, z3, d3, t5⟩
 ·clear hx
  obtain ⟨c8, hfr, i7, x5, j7, i6, m7⟩ := hR
  refine E_region (EL_mv i7 rfl ?_)
  refine EL_p (fPtr p2 1) (P_fieldAddr at_37_1 j7 (PT.ptr i6)) rfl ?_
  have t8 := PT_field (part_FaultDamage_1).1 i6
  refine EL_do .plain rfl (D_load (g := c8) Try.isAgg3 Try.sizeOf3 rfl t8 fun o9 v8 => ?_)
  obtain rfl := RV_int.1 v8
  refine EL_mv m7 rfl ?_
  obtain ⟨k8, y6, h⟩ := bsome h
  refine EL_p (ePtr up2 (x1).Pick 1) (P_indexAddrM (α := Int) Try.underlying26 Try.sizeOf3 rfl x5 rfl y6) rfl ?_
  refine EL_do .plain rfl (D_storeM (g := c8) (α := Int) (a' := j1) Try.sizeOf3 rfl x5 y6 rfl (RV_int.2 rfl) fun t9 u9 hs b47 => ?_)
  have hfr := hfr.stp hs
  refine EL_nil ?_
  obtain rfl := sinj h
  exact end0n rfl rfl ⟨_, hfr, rfl, a7.back b47⟩
def f143 (x0 : FaultFaultLoom) (x1 : FaultDamage) (x2 : List Int) : Option ((List Int)) :=
 (rem64 (w64 ((x1).Pick + (1 : Int))) ((x2).length : Int)).bind fun y5 =>
 (idx x2 (x1).Pick).bind fun y8 =>
 (idx x2 y5).bind fun o0 =>
 (idx x2 (x1).Pick).bind fun u3 =>
 (idx ((List.set x2 (Int.toNat (x1).Pick) o0)) y5).bind fun z3 =>
 some ((List.set ((List.set x2 (Int.toNat (x1).Pick) o0)) (Int.toNat y5) y8))
theorem en143 : Enters Try.prog 143 := enters_of Try.func143 (by kernel_rfl) rfl
theorem wk143 {iI : Nat} {gI : Gh} {wI : World} {x0 : FaultFaultLoom} {x1 : FaultDamage} {x2 : List Int} {up0 : Value} (rp0 : RV gI.m wI x0 up0) {up1 : Value} (rp1 : RV gI.m wI x1 up1) {up2 : Value} (mp2 : OM iI gI wI 3 x2 up2) {up3 : Value} {r : (List Int)} (h : f143 x0 x1 x2 = some r) : FnM Try.prog 143 #[up0, up1, up2, up3] iI gI wI (fun g w v => v = .tuple #[] ∧ OM iI g w 3 r up2) := by
 unfold f143 at h
 refine fnM_of_E Try.func143 rfl (Nat.le_of_ble_eq_true rfl) fun g0 hm hfr => ?_
 have d3 := mp2
 replace mp2 := mp2.enter
 rw [← hm] at mp2
 replace hm : g0.m = gI.m := by rw [hm]
 have rp0 : RV g0.m wI x0 up0 := hm ▸ rp0
 have rp1 : RV g0.m wI x1 up1 := hm ▸ rp1
 show E _ 35 none _ _ _ _ _
 refine E_seq (E_region (EL_do .plain rfl (D_box (g := g0) rfl rp0 fun g1 w1 p1 hs q1 => ?_)))
 have hfr := hfr.ext hs
 have rp1 := rp1.ext hs
 have mp2 := mp2.ext hs
 refine EL_do .plain rfl (D_box (g := g1) rfl rp1 fun g2 w2 p2 hs q2 => ?_)
 have hfr := hfr.ext hs
 have mp2 := mp2.ext hs
 refine EL_nil (thn_n (E_seq (E_region (EL_p (fPtr p2 1) (P_fieldAddr at_37_1 rfl (PT.ptr q2)) rfl ?_))))
 have q3 := PT_field (part_FaultDamage_1).1 q2
 refine EL_do .plain rfl (D_load (g := g2) Try.isAgg3 Try.sizeOf3 rfl q3 fun v4 r4 => ?_)
 obtain rfl := RV_int.1 r4
 refine EL_in (.int .i64 ((w64 ((x1).Pick + (1 : Int))))) rfl rfl rfl rfl ?_
 refine EL_mw up2 rfl rfl ?_
 refine EL_p (.int .i64 ((x2).length : Int)) (P_lenM Try.underlying26 rfl mp2) rfl ?_
 obtain ⟨y5, hy5, h⟩ := bsome h
 refine EL_p (.int .i64 (y5)) (P_int rfl rfl (congrArg (Option.map (Value.int .i64)) hy5)) rfl ?_
 refine EL_at (.int .i64 (y5)) rfl rfl ?_
 refine EL_nil (thn_n (E_seq ?_))
 have q6 := PT_field (part_FaultDamage_1).1 q2
 refine L_load (x := .tmp 18) Try.isAgg3 Try.sizeOf3 q6 fun v7 r7 hl7 => ?_
 obtain rfl := RV_int.1 r7
 obtain ⟨y8, i3, h⟩ := bsome h
 refine L_loadM (x := .tmp 20) Try.isAgg3 Try.sizeOf3 mp2 i3 fun v9 r9 z4 => ?_
 obtain rfl := RV_int.1 r9
 obtain ⟨o0, u0, h⟩ := bsome h
 refine L_loadM (x := .tmp 24) Try.isAgg3 Try.sizeOf3 mp2 u0 fun x5 i5 o3 => ?_
 obtain rfl := RV_int.1 i5
 refine E_drawL (g := g2) (n := 11) [] [0, 1, 2, 3, 4, 5, 6, 7, 8, 9, 10] rfl mixed (by kernel_rfl) trivial ?_
 refine L_p up2 rfl rfl (P_move rfl) ?_
 refine L_p (fPtr p2 1) rfl rfl (P_fieldAddr at_37_1 rfl (PT.ptr q2)) ?_
 refine L_ld (c := .int .i64 ((x1).Pick)) rfl rfl .plain (fun _ _ h => h.ch) hl7 rfl ?_
 refine L_p (ePtr up2 (x1).Pick 1) rfl rfl (P_indexAddrM (α := Int) Try.underlying26 Try.sizeOf3 rfl mp2 rfl i3) ?_
 refine L_ld (c := .int .i64 (y8)) rfl rfl .plain (fun _ _ h => ⟨h.ch, fun b hb _ => h.below.block b hb⟩) z4 rfl ?_
 refine L_p up2 rfl rfl (P_move rfl) ?_
 refine L_p (.int .i64 (y5)) rfl rfl (P_move rfl) ?_
 refine L_p (ePtr up2 y5 1) rfl rfl (P_indexAddrM (α := Int) Try.underlying26 Try.sizeOf3 rfl mp2 rfl u0) ?_
 refine L_ld (c := .int .i64 (o0)) rfl rfl .plain (fun _ _ h => ⟨h.ch, fun b hb _ => h.below.block b hb⟩) o3 rfl ?_
 refine L_p (.int .i64 (y8)) rfl rfl (P_assign rfl) ?_
 refine L_p (.int .i64 (o0)) rfl rfl (P_assign rfl) ?_
 refine L_nl fun j3 i6 hs => ?_
 have hfr := hfr.ext hs
 have mp2 := mp2.ext hs
 have q2 := q2.ext hs
 clear hs
 refine EL_nil (thn_n (E_seq (E_region (EL_mw up2 rfl rfl ?_))))
 refine EL_p (fPtr p2 1) (P_fieldAddr at_37_1 rfl (PT.ptr q2)) rfl ?_
 have l5 := PT_field (part_FaultDamage_1).1 q2
 refine EL_do .plain rfl (D_load (g := j3) Try.isAgg3 Try.sizeOf3 rfl l5 fun j6 q5 => ?_)
 obtain rfl := RV_int.1 q5
 refine EL_mw (.int .i64 (o0)) rfl rfl ?_
 obtain ⟨u3, j1, h⟩ := bsome h
 refine EL_p (ePtr up2 (x1).Pick 1) (P_indexAddrM (α := Int) Try.underlying26 Try.sizeOf3 rfl mp2 rfl j1) rfl ?_
 refine EL_do .plain rfl (D_storeM (g := j3) (α := Int) (a' := o0) Try.sizeOf3 rfl mp2 j1 rfl (RV_int.2 rfl) fun t5 v6 hs b40 => ?_)
 have hfr := hfr.stp hs
 refine EL_nil (thn_n (E_region (EL_mw up2 rfl rfl ?_)))
 refine EL_mw (.int .i64 (y5)) rfl rfl ?_
 refine EL_mw (.int .i64 (y8)) rfl rfl ?_
 obtain ⟨z3, z2, h⟩ := bsome h
 refine EL_p (ePtr up2 y5 1) (P_indexAddrM (α := Int) Try.underlying26 Try.sizeOf3 rfl b40 rfl z2) rfl ?_
 refine EL_do .plain rfl (D_storeM (g := t5) (α := Int) (a' := y8) Try.sizeOf3 rfl b40 z2 rfl (RV_int.2 rfl) fun x6 y6 hs b42 => ?_)
 have hfr := hfr.stp hs
 refine EL_nil ?_
 obtain rfl := sinj h
 exact end0n rfl rfl ⟨_, hfr, rfl, d3.back b42⟩
def f144 (x0 : FaultFaultLoom) (x1 : FaultDamage) (x3 : List (Int × Bool)) : Option ((List (Int × Bool))) :=
 some ((mset x3 ((x1).Warp) true))
theorem en144 : Enters Try.prog 144 := enters_of Try.func144 (by kernel_rfl) rfl
theorem wk144 {iI : Nat} {gI : Gh} {wI : World} {x0 : FaultFaultLoom} {x1 : FaultDamage} {x3 : List (Int × Bool)} {up0 : Value} (rp0 : RV gI.m wI x0 up0) {up1 : Value} (rp1 : RV gI.m wI x1 up1) {up2 : Value} {up3 : Value} (mp3 : MP (Value.int .i64) iI gI wI x3 up3) {r : (List (Int × Bool))} (h : f144 x0 x1 x3 = some r) : FnM Try.prog 144 #[up0, up1, up2, up3] iI gI wI (fun g w v => v = .tuple #[] ∧ MP (Value.int .i64) iI g w r up3) := by
 unfold f144 at h
 refine fnM_of_E Try.func144 rfl (Nat.le_of_ble_eq_true rfl) fun g0 hm hfr => ?_
 have o0 := mp3
 replace mp3 := mp3.enter
 rw [← hm] at mp3
 replace hm : g0.m = gI.m := by rw [hm]
 have rp0 : RV g0.m wI x0 up0 := hm ▸ rp0
 have rp1 : RV g0.m wI x1 up1 := hm ▸ rp1
 show E _ 11 none _ _ _ _ _
 refine E_seq (E_region (EL_do .plain rfl (D_box (g := g0) rfl rp0 fun g1 w1 p1 hs q1 => ?_)))
 have hfr := hfr.ext hs
 have rp1 := rp1.ext hs
 have mp3 := mp3.ext hs
 refine EL_do .plain rfl (D_box (g := g1) rfl rp1 fun g2 w2 p2 hs q2 => ?_)
 have hfr := hfr.ext hs
 have mp3 := mp3.ext hs
 refine EL_nil (thn_n (E_region (EL_mw up3 rfl rfl ?_)))
 refine EL_p (fPtr p2 3) (P_fieldAddr at_37_3 rfl (PT.ptr q2)) rfl ?_
 have q3 := PT_field (part_FaultDamage_3).1 q2
 refine EL_do .plain rfl (D_load (g := g2) Try.isAgg3 Try.sizeOf3 rfl q3 fun v4 r4 => ?_)
 obtain rfl := RV_int.1 r4
 refine EL_do .plain rfl (D_mapUpdate (g := g2) Try.underlying117 key_3 rfl mp3 rfl rfl (RV_bool.2 rfl) fun g5 w5 hs m5 => ?_)
 have hfr := hfr.stp hs
 refine EL_nil ?_
 obtain rfl := sinj h
 exact end0n rfl rfl ⟨_, hfr, rfl, o0.back m5⟩
def fvF (f : Nat) : Fv := ⟨.func (.func f) #[] #[], rfl⟩
def fv0 : Fv := ⟨.nilFunc, rfl⟩
def chgM : List (Int × Fv) := [(1, fvF 140), (2, fvF 141), (3, fvF 142), (4, fvF 143), (5, fvF 144)]
def fchg (k : Int) (l : FaultFaultLoom) (d : FaultDamage) (rows : List Int) (br : List (Int × Bool)) : Option (List Int × List (Int × Bool)) :=
 if k = 1 then (f140 l d rows).map (fun r => (r, br)) else if k = 2 then (f141 l d rows).map (fun r => (r, br)) else if k = 3 then (f142 l d rows).map (fun r => (r, br)) else if k = 4 then (f143 l d rows).map (fun r => (r, br))
 else if k = 5 then (f144 l d br).map (fun b => (rows, b)) else none
theorem en90 : Enters Try.prog 90 := enters_of Try.func90 (by kernel_rfl) rfl
theorem key_35 : KeyLaw Try.prog 35 (Value.int .i64) := keyLaw_int Try.underlying35
theorem wk90 {i : Nat} {gI : Gh} {wI : World} : FnG Try.prog 90 #[] gI wI (fun g w v => MP (Value.int .i64) i g w chgM v) := by
 refine fnG_of_E Try.func90 rfl (Nat.le_of_ble_eq_true rfl) fun g0 hm hfr => ?_
 show E _ 3 none _ _ _ _ _
 refine E_seq (E_region (EL_at (.map none) rfl rfl (EL_nil (thn_n ?_))))
 refine E_seq (E_region (EL_do .plain rfl (D_makeMap (g := g0) (Value.int .i64) Fv 5 fun g1 w1 v1 hs1 m1 => ?_)))
 refine EL_do .plain rfl (D_insert (v := fvF 140) Try.underlying185 key_35 rfl m1 rfl rfl (RV_fv.2 rfl) fun g2 w2 hs2 m2 => ?_)
 refine EL_do .plain rfl (D_insert (v := fvF 141) Try.underlying185 key_35 rfl m2 rfl rfl (RV_fv.2 rfl) fun g3 w3 hs3 m3 => ?_)
 refine EL_do .plain rfl (D_insert (v := fvF 142) Try.underlying185 key_35 rfl m3 rfl rfl (RV_fv.2 rfl) fun g4 w4 hs4 m4 => ?_)
 refine EL_do .plain rfl (D_insert (v := fvF 143) Try.underlying185 key_35 rfl m4 rfl rfl (RV_fv.2 rfl) fun g5 w5 hs5 m5 => ?_)
 refine EL_do .plain rfl (D_insert (v := fvF 144) Try.underlying185 key_35 rfl m5 rfl rfl (RV_fv.2 rfl) fun g6 w6 hs6 m6 => ?_)
 refine EL_mw v1 rfl rfl ?_
 refine EL_at v1 rfl rfl (EL_nil (thn_n ?_))
 have hfr := (((((hfr.stp hs1).stp hs2).stp hs3).stp hs4).stp hs5).stp hs6
 obtain ⟨g', hx, hmp⟩ := MP.hand (i := i) hfr m6
 exact E_ret (end1 rfl rfl (show _ = v1 from rfl) ⟨g', hx, hmp⟩)
theorem D_chg {e : Env} {g : Gh} {w : World} {K : Value → World → Prop} {c x1 x2 x3 x4 : Operand} {ats : Array TypeId} {k : Int} {l : FaultFaultLoom} {d : FaultDamage} {rows rows' : List Int} {br br' : List (Int × Bool)} {i j : Nat} {lv dv rv bv : Value}
  (hf : fchg k l d rows br = some (rows', br')) (hc : ev e c = ((mget chgM k).getD fv0).v) (h1 : ev e x1 = lv) (h2 : ev e x2 = dv) (h3 : ev e x3 = rv) (h4 : ev e x4 = bv) (r1 : RV g.m w l lv) (r2 : RV g.m w d dv) (hom : OM i g w 3 rows rv) (hmp : MP (Value.int .i64) j g w br bv) (hij : Nat.beq i j = false) (hji : Nat.beq j i = false)
  (h : ∀ g1 w1 g' w' v, Stp i g w g1 w1 → Stp j g1 w1 g' w' → OM i g' w' 3 rows' rv → MP (Value.int .i64) j g' w' br' bv → K v w') : Doe Try.prog (.call { callee := .value c, args := #[x1, x2, x3, x4], argTypes := ats }) e w K := by
 unfold fchg at hf
 have ha : Args e [x1, x2, x3, x4] [lv, dv, rv, bv] := .cons h1 (.cons h2 (.cons h3 (.cons h4 .nil)))
 have one : ∀ (f : Nat) (fF : FaultFaultLoom → FaultDamage → List Int → Option (List Int)), ev e c = .func (.func f) #[] #[] → Enters Try.prog f → (fF l d rows).map (fun r => (r, br)) = some (rows', br') →
   (∀ r, fF l d rows = some r → FnM Try.prog f #[lv, dv, rv, bv] i g w (fun g w v => v = .tuple #[] ∧ OM i g w 3 r rv)) → Doe Try.prog (.call { callee := .value c, args := #[x1, x2, x3, x4], argTypes := ats }) e w K := by
  intro f fF hcf hen hmap hw
  obtain ⟨r, hr, he⟩ := Option.map_eq_some_iff.1 hmap
  obtain ⟨rfl, rfl⟩ : r = rows' ∧ br = br' := by simpa using he
  exact D_callMv (g := g) (i := i) hcf hen ha (hw r hr) fun g' w' v hs hR => h g' w' g' w' v hs (stp_refl _ _ _) hR.2 (hmp.stp hs hji)
 split at hf
 ·rename_i hk; subst hk; exact one 140 f140 hc en140 hf fun r hr => wk140 r1 r2 hom hr
 split at hf
 ·rename_i hk; subst hk; exact one 141 f141 hc en141 hf fun r hr => wk141 r1 r2 hom hr
 split at hf
 ·rename_i hk; subst hk; exact one 142 f142 hc en142 hf fun r hr => wk142 r1 r2 hom hr
 split at hf
 ·rename_i hk; subst hk; exact one 143 f143 hc en143 hf fun r hr => wk143 r1 r2 hom hr
 split at hf
 ·rename_i hk; subst hk
  obtain ⟨r, hr, he⟩ := Option.map_eq_some_iff.1 hf
  obtain ⟨rfl, rfl⟩ : rows = rows' ∧ r = br' := by simpa using he
  exact D_callMv (g := g) (i := j) (f := 144) hc en144 ha (wk144 r1 r2 hmp hr) fun g' w' v hs hR => h g w g' w' v (stp_refl _ _ _) hs (hom.stp hs hij) hR.2
 ·cases hf
def f145 (x0 : List Int) (x1 : Int → Option Bool) : Option (Int) :=
 jn (σ := Unit) (fun _ =>
  some ((-1 : Int))
  ) fun k18 =>
 lp (σ := Int) (fun k19 o0 =>
  bif (decide (o0 < ((x0).length : Int))) then
   jn (σ := Unit) (fun _ =>
    k19 ((w64 (o0 + (1 : Int))))
    ) fun k28 =>
   (idx x0 o0).bind fun u3 =>
   (x1 u3).bind fun i6 =>
   bif i6 then
    some (o0)
   else
    k28 ()
  else
   k18 ()
  ) big ((0 : Int))
theorem en145 : Enters Try.prog 145 := enters_of Try.func145 (by kernel_rfl) rfl
theorem wk145 {gI : Gh} {wI : World} {x0 : List Int} {x1 : Int → Option Bool} {up0 : Value} (rp0 : RV gI.m wI x0 up0) {up1 : Value} (rp1 : FnV1 Try.prog x1 up1 gI wI) {r : Int} (h : f145 x0 x1 = some r) : Fn Try.prog 145 #[up0, up1] gI wI (fun _ _ v => v = .int .i64 (r)) := by
 unfold f145 at h
 refine fn_of_E Try.func145 rfl (Nat.le_of_ble_eq_true rfl) fun g0 hm hfr => ?_
 have rp0 : RV g0.m wI x0 up0 := hm ▸ rp0
 obtain ⟨ff1, fa1, fc1, rfl, fen1, fcl1⟩ := rp1
 show E _ 19 none _ _ _ _ _
 refine E_seq (E_region (EL_at (.int .i64 (0)) rfl rfl ?_))
 refine EL_nil (thn_n (E_joinC h (fun (s : Unit) e w => ∃ (g : Gh) , Fr gI wI g w) (fun X18 k18 j6 h => ?_) ?_))
 ·refine E_seq (E_region (EL_mw up0 rfl rfl ?_))
  refine EL_p (.int .i64 ((x0).length : Int)) (P_len Try.underlying26 rfl rp0) rfl ?_
  refine EL_mw (.int .i64 (0)) rfl rfl ?_
  refine EL_nil (thn_n (E_block ?_))
  refine E_lp h (fun (s : Int) e w => ∃ (g : Gh) , Fr gI wI g w ∧ e 0 = up0 ∧ RV g.m w (x0 : List Int) up0 ∧ e 1 = (.func (.func ff1) fa1 fc1) ∧ e 7 = .int .i64 (((x0).length : Int)) ∧ e 8 = .int .i64 (s)) ⟨g0, hfr, rfl, rp0, rfl, rfl, rfl⟩ (fun X19 k19 v6 => ?_)
  rintro o0 e7 j7 ⟨z3, hfr, i3, u0, j3, o3, j1⟩ h
  refine E_seq (E_region (EL_in (.bool ((decide (o0 < ((x0).length : Int))))) j1 o3 rfl rfl ?_))
  refine EL_nil (thn_n (E_seq ?_))
  rcases csome h with ⟨z2, h⟩ | ⟨z2, h⟩
  ·refine E_ct z2 rfl ?_
   refine E_skip (thn_n (E_joinC h (fun (s : Unit) e w => ∃ (g : Gh) , Fr gI wI g w ∧ e 0 = up0 ∧ RV g.m w (x0 : List Int) up0 ∧ e 1 = (.func (.func ff1) fa1 fc1) ∧ e 7 = .int .i64 (((x0).length : Int)) ∧ e 8 = .int .i64 (o0)) (fun X28 k28 x6 h => ?_) ?_))
   ·refine E_block ?_
    refine E_seq (E_region (EL_mv j1 rfl ?_))
    refine EL_at (.int .i64 (o0)) rfl rfl ?_
    refine EL_nil (thn_n (E_seq (E_region (EL_mv j3 rfl ?_))))
    refine EL_mv i3 rfl ?_
    refine EL_mw (.int .i64 (o0)) rfl rfl ?_
    obtain ⟨u3, z4, h⟩ := bsome h
    refine EL_p (ePtr up0 o0 1) (P_indexAddr (α := Int) Try.underlying26 Try.sizeOf3 rfl u0 rfl z4) rfl ?_
    have a7 := PT_idx u0 z4
    refine EL_do .plain rfl (D_load (g := z3) Try.isAgg3 Try.sizeOf3 rfl a7 fun m7 b7 => ?_)
    obtain rfl := RV_int.1 b7
    obtain ⟨i6, y6, h⟩ := bsome h
    refine EL_do .plain rfl (D_callv (g := z3) (vs := [.int .i64 (u3)]) rfl fen1 (.cons rfl .nil) (fcl1 _ _ hfr.ch _ _ _  (RV_int.2 rfl) y6) fun c7 n7 o7 hs hr => ?_)
    have hfr := hfr.ext hs
    have u0 := u0.ext hs
    obtain rfl := RV_bool.1 hr
    refine EL_nil (thn_n ?_)
    rcases csome h with ⟨d3, h⟩ | ⟨d3, h⟩
    ·refine E_ct d3 rfl ?_
     refine E_seq (E_region (EL_mw (.int .i64 (o0)) rfl rfl ?_))
     refine EL_at (.int .i64 (o0)) rfl rfl ?_
     refine EL_nil (thn_n (E_ret (blk_r ?_)))
     refine thn_r ?_
     refine thn_r ?_
     refine blk_r ?_
     refine thn_r ?_
     obtain rfl := sinj h
     exact end1 rfl rfl (show _ = .int .i64 (o0) from rfl) ⟨_, hfr, rfl⟩
    ·refine E_cf d3 rfl ?_
     exact E_skip (blk_n (thn_n (x6 () _ _ ⟨c7, hfr, i3, u0, j3, o3, j1⟩ h)))
   ·rintro _ g7 u7 ⟨d7, hfr, i5, l5, q5, t5, x5⟩ h
    refine E_region (EL_in (.int .i64 ((w64 (o0 + (1 : Int))))) x5 rfl rfl rfl ?_)
    refine EL_mw (.int .i64 ((w64 (o0 + (1 : Int))))) rfl rfl ?_
    exact EL_nil (thn_n (v6 ((w64 (o0 + (1 : Int)))) _ _ ⟨d7, hfr, i5, l5, q5, t5, rfl⟩ h))
  ·refine E_cf z2 rfl ?_
   refine E_exit ?_
   refine thn_e ?_
   refine thn_e ?_
   refine blk_hit ?_
   exact thn_n (j6 () _ _ ⟨z3, hfr⟩ h)
 ·rintro _ i7 v7 ⟨c8, hfr⟩ h
  refine E_seq (E_region (EL_at (.int .i64 (-1)) rfl rfl ?_))
  refine EL_nil (thn_n (E_ret ?_))
  obtain rfl := sinj h
  exact end1 rfl rfl (show _ = .int .i64 (-1) from rfl) ⟨_, hfr, rfl⟩
def f150 (x0 : Int) (z0 : Int) (z1 : Int) : Option (Bool) :=
 Option.bind (α := Bool) (
  bif (decide (x0 < z0)) then
   some (true)
  else
   some ((decide (x0 > z1)))
  ) fun o0 =>
 some (o0)
theorem en150 : Enters Try.prog 150 := enters_of Try.func150 (by kernel_rfl) rfl
theorem wk150 {gI : Gh} {wI : World} {x0 : Int} {z0 : Int} {z1 : Int} {pf0 : Value} (qf0 : PT gI.m wI z0 pf0) {pf1 : Value} (qf1 : PT gI.m wI z1 pf1) {r : Bool} (h : f150 x0 z0 z1 = some r) : Fn Try.prog 150 #[.int .i64 (x0), pf0, pf1] gI wI (fun _ _ v => v = .bool (r)) := by
 unfold f150 at h
 refine fn_of_E Try.func150 rfl (Nat.le_of_ble_eq_true rfl) fun g0 hm hfr => ?_
 have qf0 : PT g0.m wI z0 pf0 := hm ▸ qf0
 have qf1 : PT g0.m wI z1 pf1 := hm ▸ qf1
 show E _ 13 none _ _ _ _ _
 refine E_seq (E_region (EL_at (.bool false) rfl rfl ?_))
 refine EL_nil (thn_n ?_)
 obtain ⟨o0, hx, h⟩ := bsome h
 refine E_join (fun e w => ∃ (g : Gh) , Fr gI wI g w ∧ e 4 = .bool (o0)) (fun Q' hQ => ?_) (fun j1 w7 hR => ?_)
 ·replace h := hx
  clear hx
  refine E_region (EL_mw (.int .i64 (x0)) rfl rfl ?_)
  refine EL_do .plain rfl (D_load (g := g0) Try.isAgg3 Try.sizeOf3 rfl qf0 fun v4 r4 => ?_)
  obtain rfl := RV_int.1 r4
  refine EL_in (.bool ((decide (x0 < z0)))) rfl rfl rfl rfl ?_
  refine EL_mw (.bool ((decide (x0 < z0)))) rfl rfl ?_
  rcases csome h with ⟨hc5, h⟩ | ⟨hc5, h⟩
  ·refine EL_s rfl rfl hc5 rfl rfl ?_
   refine EL_s rfl rfl hc5 rfl rfl ?_
   refine EL_s rfl rfl hc5 rfl rfl ?_
   refine EL_p (.bool true) (P_pick (b := (decide (x0 < z0))) rfl (pick_t hc5 rfl)) rfl ?_
   refine EL_at (.bool true) rfl rfl ?_
   refine EL_nil ?_
   obtain rfl := sinj h
   exact hQ _ _ ⟨g0, hfr, rfl⟩
  ·refine EL_y (.int .i64 (x0)) (P_move rfl) rfl rfl hc5 rfl ?_
   refine EL_do (.yes2 rfl rfl hc5) rfl (D_load (g := g0) Try.isAgg3 Try.sizeOf3 rfl qf1 fun v6 r6 => ?_)
   obtain rfl := RV_int.1 r6
   refine EL_y (.bool ((decide (x0 > z1)))) (P_int rfl rfl rfl) rfl rfl hc5 rfl ?_
   refine EL_p (.bool ((decide (x0 > z1)))) (P_pick (b := (decide (x0 < z0))) rfl (pick_f hc5 rfl)) rfl ?_
   refine EL_at (.bool ((decide (x0 > z1)))) rfl rfl ?_
   refine EL_nil ?_
   obtain rfl := sinj h
   exact hQ _ _ ⟨g0, hfr, rfl⟩
 ·clear hx
  obtain ⟨g7, hfr, u0⟩ := hR
  refine E_ret ?_
  obtain rfl := sinj h
  exact end1 rfl rfl (show _ = .bool (o0) from u0) ⟨_, hfr, rfl⟩
def f151 (x0 : List SeamCut) (x1 : SeamCut → Option Bool) : Option (Int) :=
 jn (σ := Unit) (fun _ =>
  some ((-1 : Int))
  ) fun k18 =>
 lp (σ := Int) (fun k19 o0 =>
  bif (decide (o0 < ((x0).length : Int))) then
   jn (σ := Unit) (fun _ =>
    k19 ((w64 (o0 + (1 : Int))))
    ) fun k28 =>
   (idx x0 o0).bind fun x5 =>
   (x1 x5).bind fun i6 =>
   bif i6 then
    some (o0)
   else
    k28 ()
  else
   k18 ()
  ) big ((0 : Int))
theorem en151 : Enters Try.prog 151 := enters_of Try.func151 (by kernel_rfl) rfl
theorem wk151 {gI : Gh} {wI : World} {x0 : List SeamCut} {x1 : SeamCut → Option Bool} {up0 : Value} (rp0 : RV gI.m wI x0 up0) {up1 : Value} (rp1 : FnV1 Try.prog x1 up1 gI wI) {r : Int} (h : f151 x0 x1 = some r) : Fn Try.prog 151 #[up0, up1] gI wI (fun _ _ v => v = .int .i64 (r)) := by
 unfold f151 at h
 refine fn_of_E Try.func151 rfl (Nat.le_of_ble_eq_true rfl) fun g0 hm hfr => ?_
 have rp0 : RV g0.m wI x0 up0 := hm ▸ rp0
 obtain ⟨ff1, fa1, fc1, rfl, fen1, fcl1⟩ := rp1
 show E _ 19 none _ _ _ _ _
 refine E_seq (E_region (EL_at (.int .i64 (0)) rfl rfl ?_))
 refine EL_nil (thn_n (E_joinC h (fun (s : Unit) e w => ∃ (g : Gh) , Fr gI wI g w) (fun X18 k18 j6 h => ?_) ?_))
 ·refine E_seq (E_region (EL_mw up0 rfl rfl ?_))
  refine EL_p (.int .i64 ((x0).length : Int)) (P_len Try.underlying66 rfl rp0) rfl ?_
  refine EL_mw (.int .i64 (0)) rfl rfl ?_
  refine EL_nil (thn_n (E_block ?_))
  refine E_lp h (fun (s : Int) e w => ∃ (g : Gh) , Fr gI wI g w ∧ e 0 = up0 ∧ RV g.m w (x0 : List SeamCut) up0 ∧ e 1 = (.func (.func ff1) fa1 fc1) ∧ e 7 = .int .i64 (((x0).length : Int)) ∧ e 8 = .int .i64 (s)) ⟨g0, hfr, rfl, rp0, rfl, rfl, rfl⟩ (fun X19 k19 v6 => ?_)
  rintro o0 g7 m7 ⟨u3, hfr, i3, u0, j3, o3, j1⟩ h
  refine E_seq (E_region (EL_in (.bool ((decide (o0 < ((x0).length : Int))))) j1 o3 rfl rfl ?_))
  refine EL_nil (thn_n (E_seq ?_))
  rcases csome h with ⟨z2, h⟩ | ⟨z2, h⟩
  ·refine E_ct z2 rfl ?_
   refine E_skip (thn_n (E_joinC h (fun (s : Unit) e w => ∃ (g : Gh) , Fr gI wI g w ∧ e 0 = up0 ∧ RV g.m w (x0 : List SeamCut) up0 ∧ e 1 = (.func (.func ff1) fa1 fc1) ∧ e 7 = .int .i64 (((x0).length : Int)) ∧ e 8 = .int .i64 (o0)) (fun X28 k28 x6 h => ?_) ?_))
   ·refine E_block ?_
    refine E_seq (E_region (EL_mv j1 rfl ?_))
    refine EL_at (.int .i64 (o0)) rfl rfl ?_
    refine EL_nil (thn_n (E_seq (E_region (EL_mv j3 rfl ?_))))
    refine EL_mv i3 rfl ?_
    refine EL_mw (.int .i64 (o0)) rfl rfl ?_
    obtain ⟨x5, z3, h⟩ := bsome h
    refine EL_p (ePtr up0 o0 2) (P_indexAddr (α := SeamCut) Try.underlying66 Try.sizeOf68 rfl u0 rfl z3) rfl ?_
    have a7 := PT_idx u0 z3
    refine EL_do .plain rfl (D_load (g := u3) Try.isAgg68 Try.sizeOf68 rfl a7 fun b7 c7 => ?_)
    obtain ⟨i6, y6, h⟩ := bsome h
    refine EL_do .plain rfl (D_callv (g := u3) (vs := [b7]) rfl fen1 (.cons rfl .nil) (fcl1 _ _ hfr.ch _ _ _  c7 y6) fun d7 n7 o7 hs hr => ?_)
    have hfr := hfr.ext hs
    have u0 := u0.ext hs
    obtain rfl := RV_bool.1 hr
    refine EL_nil (thn_n ?_)
    rcases csome h with ⟨d3, h⟩ | ⟨d3, h⟩
    ·refine E_ct d3 rfl ?_
     refine E_seq (E_region (EL_mw (.int .i64 (o0)) rfl rfl ?_))
     refine EL_at (.int .i64 (o0)) rfl rfl ?_
     refine EL_nil (thn_n (E_ret (blk_r ?_)))
     refine thn_r ?_
     refine thn_r ?_
     refine blk_r ?_
     refine thn_r ?_
     obtain rfl := sinj h
     exact end1 rfl rfl (show _ = .int .i64 (o0) from rfl) ⟨_, hfr, rfl⟩
    ·refine E_cf d3 rfl ?_
     exact E_skip (blk_n (thn_n (x6 () _ _ ⟨d7, hfr, i3, u0, j3, o3, j1⟩ h)))
   ·rintro _ i7 u7 ⟨e7, hfr, z4, i5, l5, q5, t5⟩ h
    refine E_region (EL_in (.int .i64 ((w64 (o0 + (1 : Int))))) t5 rfl rfl rfl ?_)
    refine EL_mw (.int .i64 ((w64 (o0 + (1 : Int))))) rfl rfl ?_
    exact EL_nil (thn_n (v6 ((w64 (o0 + (1 : Int)))) _ _ ⟨e7, hfr, z4, i5, l5, q5, rfl⟩ h))
  ·refine E_cf z2 rfl ?_
   refine E_exit ?_
   refine thn_e ?_
   refine thn_e ?_
   refine blk_hit ?_
   exact thn_n (j6 () _ _ ⟨u3, hfr⟩ h)
 ·rintro _ j7 v7 ⟨c8, hfr⟩ h
  refine E_seq (E_region (EL_at (.int .i64 (-1)) rfl rfl ?_))
  refine EL_nil (thn_n (E_ret ?_))
  obtain rfl := sinj h
  exact end1 rfl rfl (show _ = .int .i64 (-1) from rfl) ⟨_, hfr, rfl⟩
def f153 (x0 : List SeamPart) : Option ((List Span)) :=
 Option.bind (α := (List Span)) (
  lp (σ := (List Span) × Int) (fun u9 (t5, o0) =>
   bif (decide (o0 < ((x0).length : Int))) then
    Option.bind (α := (List Span)) (
     (idx x0 o0).bind fun o3 =>
     lp (σ := (List Span) × Int) (fun y9 (x5, u0) =>
      bif (decide (u0 < (o3).Picks)) then
       Option.bind (α := (List Span)) (
        (apnd 16 x5 (([(o3).Width] : List Span))).bind fun z9 =>
        some (z9)
        ) fun u3 =>
       y9 (u3, (w64 (u0 + (1 : Int))))
      else
       some (x5)
      ) big (t5, (0 : Int))
     ) fun z3 =>
    u9 (z3, (w64 (o0 + (1 : Int))))
   else
    some (t5)
   ) big ([], (0 : Int))
  ) fun z4 =>
 some (z4)
theorem en153 : Enters Try.prog 153 := enters_of Try.func153 (by kernel_rfl) rfl
theorem wk153 {gI : Gh} {wI : World} {x0 : List SeamPart} {up0 : Value} (rp0 : RV gI.m wI x0 up0) {r : (List Span)} (h : f153 x0 = some r) : Fn Try.prog 153 #[up0] gI wI (fun m w v => RV m w (r) v) := by
 unfold f153 at h
 refine fn_of_E Try.func153 rfl (Nat.le_of_ble_eq_true rfl) fun g0 hm hfr => ?_
 have rp0 : RV g0.m wI x0 up0 := hm ▸ rp0
 show E _ 23 none _ _ _ _ _
 refine E_seq (E_region (EL_at (.slice none 0 0) rfl rfl ?_))
 refine EL_nil (thn_n ?_)
 obtain ⟨z4, hx, h⟩ := bsome h
 refine E_join (fun e w => ∃ (g : Gh) (v2 : Value), Fr gI wI g w ∧ e 2 = v2 ∧ RV g.m w (z4 : List Span) v2 ∧ OS 1002 g w 137 (z4 : List Span) v2) (fun Q' hQ => ?_) (fun bB jB hR => ?_)
 ·replace h := hx
  clear hx
  refine E_seq (E_region (EL_mw up0 rfl rfl ?_))
  refine EL_p (.int .i64 ((x0).length : Int)) (P_len Try.underlying141 rfl rp0) rfl ?_
  refine EL_mw (.int .i64 (0)) rfl rfl ?_
  refine EL_nil (thn_n (E_block ?_))
  refine E_lp h (fun (s : (List Span) × Int) e w => ∃ (g : Gh) (v2 : Value), Fr gI wI g w ∧ e 2 = v2 ∧ RV g.m w (s.1 : List Span) v2 ∧ OS 1002 g w 137 (s.1 : List Span) v2 ∧ e 5 = up0 ∧ RV g.m w (x0 : List SeamPart) up0 ∧ e 6 = .int .i64 (((x0).length : Int)) ∧ e 7 = .int .i64 (s.2)) ⟨g0, (.slice none 0 0), hfr, rfl, RV_nil, OS.nil, rfl, rp0, rfl, rfl⟩ (fun X47 u9 iA => ?_)
  rintro ⟨t5, o0⟩ cB kB ⟨o7, a7, hfr, b7, d3, i3, c7, j1, d7, i6⟩ h
  refine E_seq (E_region (EL_in (.bool ((decide (o0 < ((x0).length : Int))))) i6 d7 rfl rfl ?_))
  refine EL_nil (thn_n (E_seq ?_))
  rcases csome h with ⟨x6, h⟩ | ⟨x6, h⟩
  ·refine E_ct x6 rfl ?_
   refine E_skip (thn_n ?_)
   obtain ⟨z3, hx, h⟩ := bsome h
   refine E_join (fun e w => ∃ (g : Gh) (v2 : Value), Fr gI wI g w ∧ e 2 = v2 ∧ RV g.m w (z3 : List Span) v2 ∧ OS 1002 g w 137 (z3 : List Span) v2 ∧ e 5 = up0 ∧ RV g.m w (x0 : List SeamPart) up0 ∧ e 6 = .int .i64 (((x0).length : Int)) ∧ e 7 = .int .i64 (o0)) (fun Q' hQ => ?_) (fun dB lB hR => ?_)
   ·replace h := hx
    clear hx
    refine E_block ?_
    refine E_seq (E_region ?_)
    obtain ⟨o3, u7, h⟩ := bsome h
    refine EL_p (ePtr up0 o0 3) (P_indexAddr (α := SeamPart) Try.underlying141 Try.sizeOf140 c7 j1 i6 u7) rfl ?_
    have lA := PT_idx j1 u7
    refine EL_do .plain rfl (D_load (g := o7) Try.isAgg140 Try.sizeOf140 rfl lA fun mA v7 => ?_)
    refine EL_do .plain rfl (D_allocOc (g := o7) 2004 (⟨0, ⟨0, 0⟩⟩ : SeamPart) Try.zeroValue140 (fun m w => ⟨_, (rep_two rep_int (rep_two rep_int rep_int)), rfl⟩) fun nA mB q5 hs b75 cb => ?_)
    have hfr := hfr.stp hs
    have d3 := d3.stp hs
    have i3 := i3.stp hs rfl
    have j1 := j1.stp hs
    have v7 := v7.stp hs
    clear cb
    refine EL_do .plain rfl (D_storeOc (g := nA) (v := mA) Try.sizeOf140 rfl b75 rfl v7 fun bA nB hs b76 cb => ?_)
    clear cb
    have hfr := hfr.stp hs
    have d3 := d3.stp hs
    have i3 := i3.stp hs rfl
    have j1 := j1.stp hs
    refine EL_nil (thn_n (E_seq (E_region (EL_p (fPtr q5 0) (P_fieldAddr at_140_0 rfl (OB.ptr b76)) rfl ?_))))
    refine EL_do .plain rfl (D_loadF (g := bA) part_SeamPart_0.1 Try.isAgg3 Try.sizeOf3 rfl b76 fun oB oA => ?_)
    obtain rfl := RV_int.1 oA
    refine EL_mw (.int .i64 (0)) rfl rfl ?_
    refine EL_nil (thn_n (E_block ?_))
    refine E_lp h (fun (s : (List Span) × Int) e w => ∃ (g : Gh) (v2 : Value), Fr gI wI g w ∧ e 2 = v2 ∧ RV g.m w (s.1 : List Span) v2 ∧ OS 1002 g w 137 (s.1 : List Span) v2 ∧ e 4 = q5 ∧ OB 2004 g w 140 (o3 : SeamPart) q5 ∧ e 5 = up0 ∧ RV g.m w (x0 : List SeamPart) up0 ∧ e 6 = .int .i64 (((x0).length : Int)) ∧ e 7 = .int .i64 (o0) ∧ e 12 = .int .i64 ((o3).Picks) ∧ e 13 = .int .i64 (s.2)) ⟨bA, (a7), hfr, b7, d3, i3, rfl, b76, c7, j1, d7, i6, rfl, rfl⟩ (fun X79 y9 jA => ?_)
    rintro ⟨x5, u0⟩ eB tB ⟨c8, i8, hfr, e7, i5, l5, g7, z2, i7, j3, j7, m7, j6, v6⟩ h
    refine E_seq (E_region (EL_in (.bool ((decide (u0 < (o3).Picks)))) v6 j6 rfl rfl ?_))
    refine EL_nil (thn_n (E_seq ?_))
    rcases csome h with ⟨y6, h⟩ | ⟨y6, h⟩
    ·refine E_ct y6 rfl ?_
     refine E_skip (thn_n ?_)
     obtain ⟨u3, hx, h⟩ := bsome h
     refine E_join (fun e w => ∃ (g : Gh) (v2 : Value), Fr gI wI g w ∧ e 2 = v2 ∧ RV g.m w (u3 : List Span) v2 ∧ OS 1002 g w 137 (u3 : List Span) v2 ∧ e 4 = q5 ∧ OB 2004 g w 140 (o3 : SeamPart) q5 ∧ e 5 = up0 ∧ RV g.m w (x0 : List SeamPart) up0 ∧ e 6 = .int .i64 (((x0).length : Int)) ∧ e 7 = .int .i64 (o0) ∧ e 12 = .int .i64 ((o3).Picks) ∧ e 13 = .int .i64 (u0)) (fun Q' hQ => ?_) (fun iB vB hR => ?_)
     ·replace h := hx
      clear hx
      refine E_block ?_
      refine E_region (EL_mv e7 rfl ?_)
      refine EL_p (fPtr q5 1) (P_fieldAddr at_140_1 g7 (OB.ptr z2)) rfl ?_
      refine EL_do .plain rfl (D_loadF (g := c8) part_SeamPart_1.1 Try.isAgg137 Try.sizeOf137 rfl z2 fun pA qA => ?_)
      refine EL_do .plain rfl (D_buildSlice (g := c8) 3018 (xs := ([(o3).Width] : List Span)) (vs := [pA]) Try.underlying207 Try.sizeOf137 Try.zeroValue137 rfl rfl (.cons rfl .nil) (RVs.cons qA RVs.nil) rfl rfl fun rA xB yB hs o89 sA hxt hfl => ?_)
      have hfr := hfr.stp hs
      have i5 := i5.stp hs
      have l5 := l5.stp hs rfl
      have z2 := z2.stp hs rfl
      have j3 := j3.stp hs
      obtain ⟨z9, kA, h⟩ := bsome h
      refine EL_do .plain rfl (D_append (g := rA) (i := 1002) Try.underlying207 info_137 rfl rfl l5 i5 rfl sA kA fun uA zB gA hs o90 xA _ => ?_)
      have hfr := hfr.stp hs
      have z2 := z2.stp hs rfl
      have j3 := j3.stp hs
      refine EL_at gA rfl rfl ?_
      refine EL_nil (blk_n ?_)
      obtain rfl := sinj h
      exact hQ _ _ ⟨uA, (gA), hfr, rfl, xA, o90, g7, z2, i7, j3, j7, m7, j6, v6⟩
     ·clear hx
      obtain ⟨yA, k8, hfr, l8, m8, n8, o8, q8, r8, t8, v8, x8, e8, g8⟩ := hR
      refine E_region (EL_in (.int .i64 ((w64 (u0 + (1 : Int))))) g8 rfl rfl rfl ?_)
      refine EL_mw (.int .i64 ((w64 (u0 + (1 : Int))))) rfl rfl ?_
      exact EL_nil (thn_n (jA (u3, (w64 (u0 + (1 : Int)))) _ _ ⟨yA, (k8), hfr, l8, m8, n8, o8, q8, r8, t8, v8, x8, e8, rfl⟩ h))
    ·refine E_cf y6 rfl ?_
     refine E_exit ?_
     refine thn_e ?_
     refine thn_e ?_
     refine blk_hit ?_
     refine blk_n ?_
     obtain rfl := sinj h
     exact hQ _ _ ⟨c8, (i8), hfr, e7, i5, l5, i7, j3, j7, m7⟩
   ·clear hx
    obtain ⟨zA, y8, hfr, a9, d9, e9, i9, k9, l9, n9⟩ := hR
    refine E_region (EL_in (.int .i64 ((w64 (o0 + (1 : Int))))) n9 rfl rfl rfl ?_)
    refine EL_mw (.int .i64 ((w64 (o0 + (1 : Int))))) rfl rfl ?_
    exact EL_nil (thn_n (iA (z3, (w64 (o0 + (1 : Int)))) _ _ ⟨zA, (y8), hfr, a9, d9, e9, i9, k9, l9, rfl⟩ h))
  ·refine E_cf x6 rfl ?_
   refine E_exit ?_
   refine thn_e ?_
   refine thn_e ?_
   refine blk_hit ?_
   obtain rfl := sinj h
   exact hQ _ _ ⟨o7, (a7), hfr, b7, d3, i3⟩
 ·clear hx
  obtain ⟨aC, n7, hfr, o9, t9, aB⟩ := hR
  refine E_seq (E_region (EL_mv o9 rfl ?_))
  refine EL_at n7 rfl rfl ?_
  refine EL_nil (thn_n (E_ret ?_))
  obtain rfl := sinj h
  exact end1 rfl rfl (show _ = n7 from rfl) ⟨_, hfr, t9⟩
end Go.Proofs.Ytdkgoipaohacgaa
