import Derived.Test.YtmebkoemfjlbcaaGreatDoorTypes
import Derived.Test.YtmebkoemfjlbcaaGreatDoorIt
import Derived.Test.YtmebkoemfjlbcaaGreatDoorShelf
import Derived.Test.YtmebkoemfjlbcaaGreatDoorSf
import Derived.Test.YtmebkoemfjlbcaaGreatDoorVs
import Derived.Test.YtmebkoemfjlbcaaGreatDoorCx
import Derived.Test.YtmebkoemfjlbcaaGreatDoorTe
import Derived.Test.YtmebkoemfjlbcaaGreatDoorYes
set_option maxRecDepth 8000
set_option maxHeartbeats 4000000
namespace Go.Proofs.YtmebkoemfjlbcaaGreatDoor
open Go.RowKit Tryz
theorem D8 : (prog.info? 9).map (fun i => (i.zero, i.size, i.bytes)) = some (some (Str.v ⟨[]⟩), 1, 16) := by kernel_rfl
theorem Yq : (prog.info? 5).map (fun i => (i.zero, i.size, i.bytes)) = some (some (.int .u8 0), 1, 1) := by kernel_rfl
theorem Xv : Uz Z2 := fun _ m' _ w' x _ h => (Un J8 (Un J8 (Un J8 (Un J8 J8)))) _ m' _ w' _ _ h
theorem Px : T5 prog 24 = some ([Iz 0, .slice none 0 0], [(0, 1), (1, 1)]) := by kernel_rfl
theorem Rg : (prog.info? 3).map (fun i => (i.zero, i.size, i.bytes)) = some (some (.int .i64 0), 1, 8) := by kernel_rfl
theorem Fd {P : Program} {e : Env} {ds : List Deferred} {w : World} {fn : Func} {R : Value → World → Prop} {t0 : Tmp} {v0 : Value} {y0 : TypeId} {a0 : Addr} (hres : fn.results = #[.cell t0 y0]) (hd : ds = []) (h0 : e t0 = .pointer (some a0)) (l0 : (loadVar y0 a0).run P w = .ok v0 w) (h : R v0 w) : K3 P fn R .ret e ds w :=
 ⟨hd, fun tmps ht => ⟨_, by simp [results, hres, ht, asAddr, h0, l0], h⟩⟩
theorem lay_39 : T5 prog 39 = some ([.slice none 0 0, .slice none 0 0], [(0, 1), (1, 1)]) := by kernel_rfl
theorem N1 : T5 prog 106 = some ([Iz 0, .slice none 0 0], [(0, 1), (1, 1)]) := by kernel_rfl
theorem Nm : T5 prog 108 = some ([Str.v ⟨[]⟩, Iz 0, .slice none 0 0], [(0, 1), (1, 2)]) := by kernel_rfl
theorem mixed : prog.follows .mixedOrders = true := by kernel_rfl
theorem lay_92 : T5 prog 92 = some ([Iz 0, .slice none 0 0], [(0, 1), (1, 1)]) := by kernel_rfl
theorem lay_94 : T5 prog 94 = some ([Str.v ⟨[]⟩, Iz 0, .slice none 0 0], [(0, 1), (1, 2)]) := by kernel_rfl
theorem V1 : (prog.info? 63).map (fun i => (i.zero, i.size, i.bytes)) = some (some (.agg #[.int .i64 0, .int .i64 0, .int .i64 0, .int .i64 0, .int .i64 0]), 5, 40) := by kernel_rfl
theorem Vw {P : Program} {e : Env} {ds : List Deferred} {w : World} {fn : Func} {R : Value → World → Prop} {t0 : Tmp} {v0 : Value} {y0 : TypeId} {a0 : Addr} {t1 : Tmp} {v1 : Value} {y1 : TypeId} {a1 : Addr} {t2 : Tmp} {v2 : Value} {y2 : TypeId} {a2 : Addr} (hres : fn.results = #[.cell t0 y0, .cell t1 y1, .cell t2 y2]) (hd : ds = []) (h0 : e t0 = .pointer (some a0)) (l0 : (loadVar y0 a0).run P w = .ok v0 w) (h1 : e t1 = .pointer (some a1)) (l1 : (loadVar y1 a1).run P w = .ok v1 w) (h2 : e t2 = .pointer (some a2)) (l2 : (loadVar y2 a2).run P w = .ok v2 w) (h : R (.tuple #[v0, v1, v2]) w) : K3 P fn R .ret e ds w :=
 ⟨hd, fun tmps ht => ⟨_, by simp [results, hres, ht, asAddr, h0, l0, h1, l1, h2, l2], h⟩⟩
theorem fl_63 : prog.fieldsOf 63 = #[{ name := "Day", type := 3, offset := 0, embedded := false, tag := "", pkgPath := "", byteOffset := 0 }, { name := "Loom", type := 3, offset := 1, embedded := false, tag := "", pkgPath := "", byteOffset := 8 }, { name := "Chain", type := 3, offset := 2, embedded := false, tag := "", pkgPath := "", byteOffset := 16 }, { name := "Tie", type := 3, offset := 3, embedded := false, tag := "", pkgPath := "", byteOffset := 24 }, { name := "Picks", type := 3, offset := 4, embedded := false, tag := "", pkgPath := "", byteOffset := 32 }] := by kernel_rfl
theorem Mu : SEq (α := Z2) prog 63 := by
 intro d x y w a b m wx m2 wy hx hy;obtain ⟨_, ⟨_, _, rfl, rfl, ⟨_, _, rfl, rfl, ⟨_, _, rfl, rfl, ⟨_, _, rfl, rfl, rfl⟩⟩⟩⟩, rfl⟩ := hx;obtain ⟨_, ⟨_, _, rfl, rfl, ⟨_, _, rfl, rfl, ⟨_, _, rfl, rfl, ⟨_, _, rfl, rfl, rfl⟩⟩⟩⟩, rfl⟩ := hy;refine (run_equalIn_struct w (d + 1) 63 _ _ (by kernel_rfl) (by kernel_rfl)).trans ?_;rw [fl_63];obtain ⟨x0, x1, x2, x3, x4⟩ := x;obtain ⟨y0, y1, y2, y3, y4⟩ := y;show (Op.eqFields (d + 1) #[Iz (x0), Iz (x1), Iz (x2), Iz (x3), Iz (x4)] #[Iz (y0), Iz (y1), Iz (y2), Iz (y3), Iz (y4)] _).run _ _ = _;have x0p : (part 3 #[Iz (x0), Iz (x1), Iz (x2), Iz (x3), Iz (x4)] 0).run prog w = .ok (Iz (x0)) w := Wi isAgg3 rfl;have x1p : (part 3 #[Iz (x0), Iz (x1), Iz (x2), Iz (x3), Iz (x4)] 1).run prog w = .ok (Iz (x1)) w := Wi isAgg3 rfl;have x2p : (part 3 #[Iz (x0), Iz (x1), Iz (x2), Iz (x3), Iz (x4)] 2).run prog w = .ok (Iz (x2)) w := Wi isAgg3 rfl;have x3p : (part 3 #[Iz (x0), Iz (x1), Iz (x2), Iz (x3), Iz (x4)] 3).run prog w = .ok (Iz (x3)) w := Wi isAgg3 rfl;have x4p : (part 3 #[Iz (x0), Iz (x1), Iz (x2), Iz (x3), Iz (x4)] 4).run prog w = .ok (Iz (x4)) w := Wi isAgg3 rfl;have y0p : (part 3 #[Iz (y0), Iz (y1), Iz (y2), Iz (y3), Iz (y4)] 0).run prog w = .ok (Iz (y0)) w := Wi isAgg3 rfl;have y1p : (part 3 #[Iz (y0), Iz (y1), Iz (y2), Iz (y3), Iz (y4)] 1).run prog w = .ok (Iz (y1)) w := Wi isAgg3 rfl;have y2p : (part 3 #[Iz (y0), Iz (y1), Iz (y2), Iz (y3), Iz (y4)] 2).run prog w = .ok (Iz (y2)) w := Wi isAgg3 rfl;have y3p : (part 3 #[Iz (y0), Iz (y1), Iz (y2), Iz (y3), Iz (y4)] 3).run prog w = .ok (Iz (y3)) w := Wi isAgg3 rfl;have y4p : (part 3 #[Iz (y0), Iz (y1), Iz (y2), Iz (y3), Iz (y4)] 4).run prog w = .ok (Iz (y4)) w := Wi isAgg3 rfl;simp only [Op.eqFields, Sem.run_bind, Sem.run_ite, Sem.run_pure, x0p, x1p, x2p, x3p, x4p, y0p, y1p, y2p, y3p, y4p, Result.andThen_ok, run_equalIn_int _ _ _ _ _ _ _ underlying3];simp;grind
theorem O8 : prog.eqGuardType prog.depth 63 = false := by kernel_rfl
theorem Bf : T5 prog 63 = some ([Iz 0, Iz 0, Iz 0, Iz 0, Iz 0], [(0, 1), (1, 1), (2, 1), (3, 1), (4, 1)]) := by kernel_rfl
theorem Aw : T5 prog 96 = some ([Iz 0, Iz 0, .bool false], [(0, 1), (1, 1), (2, 1)]) := by kernel_rfl
theorem Ay : ((prog.info? 155).bind (·.zero)).map (·.cells.toList) = some [.int .u8 0, .int .u8 0, .int .u8 0, .int .u8 0, .int .u8 0, .int .u8 0, .int .u8 0, .int .u8 0] := by kernel_rfl
theorem szA_5 : (prog.info? 5).map (·.size) = some 1 := by kernel_rfl
theorem R6 {e : Env} {f : FuncId} {n8 : Operand} {b0 : Value} (hb0 : ev e n8 = b0) : (Value.func (.func f) ((#[] : Array Operand).map (ev e)) ((#[n8] : Array Operand).map (ev e))) = .func (.func f) #[] #[b0] := by simp [hb0]
theorem Ui {e : Env} {f : FuncId} {n8 : Operand} {n9 : Operand} {b0 : Value} {b1 : Value} (hb0 : ev e n8 = b0) (hb1 : ev e n9 = b1) : (Value.func (.func f) ((#[] : Array Operand).map (ev e)) ((#[n8, n9] : Array Operand).map (ev e))) = .func (.func f) #[] #[b0, b1] := by simp [hb0, hb1]
theorem fl_96 : prog.fieldsOf 96 = #[{ name := "Number", type := 3, offset := 0, embedded := false, tag := "", pkgPath := "", byteOffset := 0 }, { name := "Row", type := 3, offset := 1, embedded := false, tag := "", pkgPath := "", byteOffset := 8 }, { name := "Turned", type := 4, offset := 2, embedded := false, tag := "", pkgPath := "", byteOffset := 16 }] := by kernel_rfl
theorem seq_96 : SEq (α := Gb) prog 96 := by
 intro d x y w a b m wx m2 wy hx hy;obtain ⟨_, ⟨_, _, rfl, rfl, ⟨_, _, rfl, rfl, rfl⟩⟩, rfl⟩ := hx;obtain ⟨_, ⟨_, _, rfl, rfl, ⟨_, _, rfl, rfl, rfl⟩⟩, rfl⟩ := hy;refine (run_equalIn_struct w (d + 1) 96 _ _ (by kernel_rfl) (by kernel_rfl)).trans ?_;rw [fl_96];obtain ⟨x0, x1, x2⟩ := x;obtain ⟨y0, y1, y2⟩ := y;show (Op.eqFields (d + 1) #[Iz (x0), Iz (x1), .bool (x2)] #[Iz (y0), Iz (y1), .bool (y2)] _).run _ _ = _;have x0p : (part 3 #[Iz (x0), Iz (x1), .bool (x2)] 0).run prog w = .ok (Iz (x0)) w := Wi isAgg3 rfl;have x1p : (part 3 #[Iz (x0), Iz (x1), .bool (x2)] 1).run prog w = .ok (Iz (x1)) w := Wi isAgg3 rfl;have x2p : (part 4 #[Iz (x0), Iz (x1), .bool (x2)] 2).run prog w = .ok (.bool (x2)) w := Wi isAgg4 rfl;have y0p : (part 3 #[Iz (y0), Iz (y1), .bool (y2)] 0).run prog w = .ok (Iz (y0)) w := Wi isAgg3 rfl;have y1p : (part 3 #[Iz (y0), Iz (y1), .bool (y2)] 1).run prog w = .ok (Iz (y1)) w := Wi isAgg3 rfl;have y2p : (part 4 #[Iz (y0), Iz (y1), .bool (y2)] 2).run prog w = .ok (.bool (y2)) w := Wi isAgg4 rfl;simp only [Op.eqFields, Sem.run_bind, Sem.run_ite, Sem.run_pure, x0p, x1p, x2p, y0p, y1p, y2p, Result.andThen_ok, run_equalIn_int _ _ _ _ _ _ _ underlying3, run_equalIn_bool _ _ _ _ _ underlying4];simp;grind
theorem eg_96 : prog.eqGuardType prog.depth 96 = false := by kernel_rfl
theorem Og : T5 prog 220 = some ([Iz 0, .slice none 0 0, Iz 0], [(0, 2), (2, 1)]) := by kernel_rfl
theorem Jr {P : Program} {e : Env} {ds : List Deferred} {w : World} {fn : Func} {R : Value → World → Prop} {t0 : Tmp} {v0 : Value} {y0 : TypeId} {a0 : Addr} {t1 : Tmp} {v1 : Value} (hres : fn.results = #[.cell t0 y0, .tmp t1]) (hd : ds = []) (h0 : e t0 = .pointer (some a0)) (l0 : (loadVar y0 a0).run P w = .ok v0 w) (h1 : e t1 = v1) (h : R (.tuple #[v0, v1]) w) : K3 P fn R .ret e ds w :=
 ⟨hd, fun tmps ht => ⟨_, by simp [results, hres, ht, asAddr, h0, l0, h1], h⟩⟩
theorem M6 : T5 prog 237 = some ([Iz 0, .slice none 0 0], [(0, 2)]) := by kernel_rfl
theorem Oe : (prog.info? 49).map (fun i => (i.zero, i.size, i.bytes)) = some (some (.slice none 0 0), 1, 24) := by kernel_rfl
theorem Jm : Pl Gu := Pl.of (Pl.prod Pl.int Pl.int)
theorem fl_209 : prog.fieldsOf 209 = #[{ name := "day", type := 3, offset := 0, embedded := false, tag := "", pkgPath := "griffe/book", byteOffset := 0 }, { name := "loom", type := 3, offset := 1, embedded := false, tag := "", pkgPath := "griffe/book", byteOffset := 8 }] := by kernel_rfl
theorem N4 : EqD prog Gu 2 209 := EqD.struct rfl (by kernel_rfl) (by kernel_rfl) (by rw [fl_209]; exact (FEq.cons (by decide) (Yy).1 isAgg3 sizeOf3 (EqD.int underlying3) (FEq.cons (by decide) (Y0).1 isAgg3 sizeOf3 (EqD.int underlying3) FEq.nil))) (fun x y => by cases x; cases y; simp)
theorem Ni : CkD prog Gu 2 209 := CkD.struct rfl underlying209 fun f hf => by
 simp only [List.mem_cons, List.not_mem_nil, or_false] at hf;rcases hf with rfl | rfl
 ·exact ⟨by decide, _, _, _, (Yy).1, isAgg3, sizeOf3, (CkD.int underlying3)⟩
 ·exact ⟨by decide, _, _, _, (Y0).1, isAgg3, sizeOf3, (CkD.int underlying3)⟩
theorem F3 : Rl prog 209 (Y2 Jm) := L5 Jm (by rw [underlying209]) rfl N4 Ni (by decide)
theorem Lc : T5 prog 209 = some ([Iz 0, Iz 0], [(0, 1), (1, 1)]) := by kernel_rfl
def f149 (x0 : List Str) : Option (List Str) := apnd 16 [] x0
theorem en149 : Enters prog 149 := enters_of func149 (by kernel_rfl) rfl
theorem wk149 {gI : Gh} {wI : World} {x0 : List Str} {up0 : Value} (rp0 : RV gI.m wI x0 up0) {r : List Str} (h : f149 x0 = some r) : Fn prog 149 #[up0] gI wI (fun m w v => RV m w r v) := by
 unfold f149 at h;refine fnE func149 rfl rfl fun g0 hm hfr => ?_;have rp0 := RVc hm rp0;show E _ 8 none _ _ _ _ _;refine Z5 (Zg (.slice none 0 0) rfl rfl (Z3 (Zf (Z5 (Zn up0 rfl rfl ?_)))));obtain ⟨a, c, hv, hc, hrow⟩ := Qc rp0;refine Zx (.bool a.isNone) (Ob underlying104 (show ev _ _ = _ from hv)) rfl (Z3 ?_)
 cases a with
 | none =>
  have hx : x0 = [] := by
   cases x0 with
   | nil => rfl
   | cons y ys => obtain ⟨b, off, hb, _⟩ := hrow (by simp); cases hb
  subst hx
  have hr : r = [] := by unfold apnd at h; split at h <;> simp at h; exact h
  subst hr;refine Ta rfl (Z5 (Zg (.slice none 0 0) rfl rfl (Z3 ?_)));exact Z9 (Gf (G0 rfl rfl (rq (.slice none 0 0)) ⟨_, hfr, Tp⟩))
 | some a =>
  refine G1 rfl (Zu (Zd (Z5 (Z4 rfl (Ga (g := g0) 1 (xs := ([] : List Str)) (vs := []) underlying104 sizeOf9 zeroValue9 rfl rfl .nil RVs.nil rfl rfl fun g1 w1 v1 hs o1 r1 hxt hfl => ?_)))));have hfr := hfr.stp hs;have rp0 := rp0.stp hs;refine Zn up0 rfl rfl (Z4 rfl (Qd (g := g1) (i := 1) underlying104 D8 rfl rfl o1 r1 rfl rp0 h fun g2 w2 v2 hs o2 r2 _ => ?_));have hfr := hfr.stp hs;refine Zg v2 rfl rfl (Z3 ?_);exact Z9 (G0 rfl rfl (rq v2) ⟨_, hfr, r2⟩)
theorem Bw (a : Addr) (w : World) : (Instr.fieldAt 131 (.pointer (some a)) 0).run prog w = .ok (.pointer (some (a.add 0))) w := by simp [Instr.fieldAt, run_underlying underlying131, Instr.sureAddr, fieldPlace, Result.andThen]
theorem U0 (a : Addr) (w : World) : (Instr.fieldAt 131 (.pointer (some a)) 1).run prog w = .ok (.pointer (some (a.add 1))) w := by simp [Instr.fieldAt, run_underlying underlying131, Instr.sureAddr, fieldPlace, Result.andThen]
theorem M7 : (prog.info? 131).map (·.size) = some 2 := by kernel_rfl
theorem Cf : ∃ j, prog.info? 131 = some j ∧ j.size = 2 := Option.map_eq_some_iff.1 M7
theorem en140 : Enters prog 140 := enters_of func140 (by kernel_rfl) rfl
theorem D7 {i : Nat} {g : Gh} {w : World} {x : Fv × List UInt8} {b o : Nat} (hb : OB i g w 131 x (.pointer (some ⟨b, o, none⟩))) : o = 0 ∧ w.shape? b = some (131, 2) := by
 obtain ⟨b', cs, hp, _, _, hh, hr⟩ := hb;injection hp with hp; injection hp with hp; injection hp with h1 h2;subst h1; subst h2;have hl := GoT.len hr;simp [GoT.k] at hl;exact ⟨rfl, by simp [World.shape?, hh, hl]⟩
theorem wk140 {i j : Nat} (hji : Nat.beq j i = false) {g : Gh} {w : World} {a : Fv} {xs : List UInt8} {p : Value} (hb : OB i g w 131 (a, xs) p) (ho : OSF i j 1 g w 5 131 xs p) (ha : a.v = .pointer none ∨ a.v = p) :
  Calls prog 140 #[p] w fun r w' => ∃ v, r = .returned v ∧ ∃ g', Stp i g w g' w' ∧ ∃ a' : Fv, a'.v = p ∧ OB i g' w' 131 (a', xs) p ∧ OSF i j 1 g' w' 5 131 xs p := by
 obtain ⟨b, o, rfl⟩ := hb.ptr
 obtain ⟨hoff, hsh⟩ := D7 hb
 subst hoff
 obtain ⟨jt, hj, hjs⟩ := Cf
 refine Qp func140 rfl (Nat.le_of_ble_eq_true rfl) ?_
 show E _ 20 none _ _ _ _ _
 refine Z5 (Zn (.pointer (some ⟨b, 0, none⟩)) rfl rfl (Zx (.pointer (some ⟨b, 0, none⟩)) (Z8 rfl) rfl (Zx (Gc (.pointer (some ⟨b, 0, none⟩)) 0) (Zc Bw rfl ⟨b, 0, rfl⟩) rfl (Z4 rfl (Hz (g := g) (a := (a, xs)) Sub.fst isAgg129 sizeOf129 rfl hb fun v r => ?_)))))
 obtain rfl := Xo.1 r
 rcases ha with ha | ha
 ·refine Zx (.bool true) (Ku (u2 := .pointer none) (.inl rfl) (show _ = .pointer none from ha) rfl ⟨_, rfl⟩ ⟨_, rfl⟩ (fun w => by simpa using run_eql_pointer_nil (P := prog) w 129 none underlying129)) rfl (Z3 (Ta rfl (Za (Zn (.pointer (some ⟨b, 0, none⟩)) rfl rfl (Zn (.pointer (some ⟨b, 0, none⟩)) rfl rfl ?_)))))
  refine Xa (v := .pointer (some ⟨b, 0, none⟩)) (w' := w) .plain (fun _ h => by cases h) rfl (by
   have := Lib.run_to_unsafe w ⟨b, 0, none⟩ underlying129 underlying239 hj (by rw [hjs]; decide) hsh (by show 0 < 2; omega)
   show (Sem.run _ (execOp _ _) _) = _
   simp only [execOp, Sem.run_bind]
   rw [show ev _ (Operand.tmp 8) = Value.pointer (some ⟨b, 0, none⟩) from rfl, this]
   rfl) ?_
  refine Zx (.pointer (some ⟨b, 0, none⟩)) (Cd func170 (by kernel_rfl) (by kernel_rfl) (by kernel_rfl) (ex := Extern.AbiNoEscape.same) (by kernel_rfl) (.cons rfl .nil) (fun _ => rfl)) rfl ?_
  refine Xa (v := .pointer (some ⟨b, 0, none⟩)) (w' := w) .plain (fun _ h => by cases h) rfl (by
   have := Lib.run_from_unsafe w ⟨b, 0, none⟩ underlying239 underlying129 hj hsh (by kernel_rfl)
   show (Sem.run _ (execOp _ _) _) = _
   simp only [execOp, Sem.run_bind]
   rw [show ev _ (Operand.tmp 10) = Value.pointer (some ⟨b, 0, none⟩) from rfl, this]
   rfl) ?_
  refine Zx (.pointer (some ⟨b, 0, none⟩)) (Z8 rfl) rfl (Zx (Gc (.pointer (some ⟨b, 0, none⟩)) 0) (Zc Bw rfl ⟨b, 0, rfl⟩) rfl (Z4 rfl (Yf (g := g) (a := (a, xs)) (b := (⟨.pointer (some ⟨b, 0, none⟩), rfl⟩ : Fv)) Gr.fst sizeOf129 rfl hb rfl (Xo.2 rfl) fun g1 w1 hs b1 rst _ => ?_)))
  exact Zb (Ho rfl rfl ⟨g1, hs, _, rfl, b1, ho.rest hs rst rfl hji⟩)
 ·refine Zx (.bool false) (Ku (u2 := .pointer none) (.inl rfl) (show _ = .pointer (some ⟨b, 0, none⟩) from ha) rfl ⟨_, rfl⟩ ⟨_, rfl⟩ (fun w => by simpa using run_eql_pointer_nil (P := prog) w 129 (some ⟨b, 0, none⟩) underlying129)) rfl (Z3 (G1 rfl (Z5 (Zn (.pointer (some ⟨b, 0, none⟩)) rfl rfl (Zx (.pointer (some ⟨b, 0, none⟩)) (Z8 rfl) rfl (Zx (Gc (.pointer (some ⟨b, 0, none⟩)) 0) (Zc Bw rfl ⟨b, 0, rfl⟩) rfl (Z4 rfl (Hz (g := g) (a := (a, xs)) Sub.fst isAgg129 sizeOf129 rfl hb fun v r => ?_))))))))
  obtain rfl := Xo.1 r
  refine Zn (.pointer (some ⟨b, 0, none⟩)) rfl rfl (Zx (.bool false) (Ku (.inr rfl) (show _ = .pointer (some ⟨b, 0, none⟩) from ha) rfl ⟨_, rfl⟩ ⟨_, rfl⟩ (fun w => Lib.run_neq_ptr_same w ⟨b, 0, none⟩ underlying129 hj)) rfl (Z3 (G1 rfl (Zu ?_))))
  exact Ho rfl rfl ⟨g, Df _ _ _, _, ha, hb, ho⟩
theorem en101 : Enters prog 101 := enters_of func101 (by kernel_rfl) rfl
theorem wk101 {i j : Nat} (hji : Nat.beq j i = false) (hij : Nat.beq i j = false) {g : Gh} {w : World} {c : UInt8} {xs r : List UInt8} {p : Value} (hsb : SB i j g w 5 131 xs p) (hr : apnd 1 xs [c] = some r) :
  Calls prog 101 #[p, .int .u8 c.toNat] w fun q w' => ∃ v, q = .returned v ∧ v = .nilIface ∧ WB i j g w 5 131 r p w' := by
 obtain ⟨a, hb, ho, ha⟩ := hsb
 obtain ⟨b, o, rfl⟩ := hb.ptr
 obtain ⟨hoff, hsh⟩ := D7 hb
 subst hoff
 refine Qp func101 rfl (Nat.le_of_ble_eq_true rfl) ?_
 show E _ 17 none _ _ _ _ _
 refine Z5 (Zg (.nilIface) rfl rfl (Z3 (Z5 (Zn (.pointer (some ⟨b, 0, none⟩)) rfl rfl (Z4 rfl (Qg (vs := [.pointer (some ⟨b, 0, none⟩)]) en140 (.cons rfl .nil) (wk140 hji hb ho ha) fun v w1 h1 => ?_))))))
 obtain ⟨g1, hs1, a1, ha1, hb1, ho1⟩ := h1
 refine Z3 (Z5 (Zn (.pointer (some ⟨b, 0, none⟩)) rfl rfl (Zn (.pointer (some ⟨b, 0, none⟩)) rfl rfl (Zx (.pointer (some ⟨b, 0, none⟩)) (Z8 rfl) rfl (Zx (Gc (.pointer (some ⟨b, 0, none⟩)) 1) (Zc U0 rfl ⟨b, 0, rfl⟩) rfl (Z4 rfl (Cl (g := g1) (a := (a1, xs)) (f := Prod.snd) Sub.snd isAgg50 sizeOf50 rfl hb1 ho1 fun v2 r2 o2 => (Zn (.int .u8 c.toNat) rfl rfl (Z4 rfl (Ga (g := g1) 1 (xs := [c]) (vs := [.int .u8 c.toNat]) underlying50 sizeOf5 zeroValue5 rfl rfl (.cons rfl .nil) (RVs.cons (Tz.2 rfl) RVs.nil) rfl rfl fun g3 w3 v3 _ _ r3 hxt _ => (Z4 rfl (Qd (g := g3) (i := j) underlying50 Yq rfl rfl (o2.ext hxt) (r2.ext hxt) rfl r3 hr fun g4 w4 v4 hs4 o4 r4 _ => ?_))))))))))))
 have hb4 := (hb1.ext hxt).stp hs4 hij
 refine Zx (.pointer (some ⟨b, 0, none⟩)) (Z8 rfl) rfl (Zx (Gc (.pointer (some ⟨b, 0, none⟩)) 1) (Zc U0 rfl ⟨b, 0, rfl⟩) rfl (Z4 rfl (Yf (g := g4) (a := (a1, xs)) Gr.snd sizeOf50 rfl hb4 rfl r4 fun g5 w5 hs5 b5 _ hos => ?_)))
 have o5 := hos _ _ j 5 r (Ul r4) hji o4
 refine Z3 (Z5 (Zg (.nilIface) rfl rfl (Z3 (Z9 (G0 rfl rfl (rq .nilIface) ⟨rfl, g5, ⟨g1, w1, g4, w4, hs1, (hxt.stp.trans hs4), hs5⟩, a1, b5, o5, .inr ha1⟩)))))
theorem en71 : Enters prog 71 := enters_of func71 (by kernel_rfl) rfl
theorem J3 : prog.follows .mixedOrders = true := by kernel_rfl
theorem wk71 {i j : Nat} (hij : Nat.beq i 0 = false) {g : Gh} {w : World} {xs : List UInt8} {p : Value} (hsb : SB i j g w 5 131 xs p) (h0 : xs ≠ []) :
  Calls prog 71 #[p] w fun q w' => ∃ v, q = .returned v ∧ GS j g w xs v w' := by
 obtain ⟨a, hb, ho, ha⟩ := hsb
 obtain ⟨b, o, rfl⟩ := hb.ptr
 obtain ⟨hoff, hsh⟩ := D7 hb
 subst hoff
 refine Qp func71 rfl (Nat.le_of_ble_eq_true rfl) ?_
 show E _ 14 none _ _ _ _ _
 refine Z5 (Zg (Str.v ⟨[]⟩) rfl rfl (Z3 (B7 (f := Prod.snd) (a := (a, xs)) Sub.snd isAgg50 sizeOf50 hb ho fun v r os hl => ?_)))
 obtain ⟨sa, c, rfl, hc, _⟩ := Qc r
 have hne : c ≠ 0 := by
  have : 0 < xs.length := by cases xs with
   | nil => exact absurd rfl h0
   | cons _ _ => simp
  have hc' : xs.length ≤ c := hc
  omega
 refine Zf (T6 (g := g) (n := 10) [] [0, 1, 2, 3, 4, 5, 6, 7, 8, 9] rfl J3 (by kernel_rfl) trivial (Z0 (.pointer (some ⟨b, 0, none⟩)) rfl rfl (Zk rfl) (Z0 (.pointer (some ⟨b, 0, none⟩)) rfl rfl (Z8 rfl) (Z0 (Gc (.pointer (some ⟨b, 0, none⟩)) 1) rfl rfl (Zc U0 rfl ⟨b, 0, rfl⟩) (Ti (c := .slice sa xs.length c) rfl rfl .plain (fun _ _ h => ⟨h.ch, fun b hb _ => h.below.block b hb⟩) (hl _) rfl (Z0 (.pointer sa) rfl rfl (Xn (a := sa) (n := xs.length) (c := c) rfl (.inl hne)) (Z0 (.pointer (some ⟨b, 0, none⟩)) rfl rfl (Zk rfl) (Z0 (.pointer (some ⟨b, 0, none⟩)) rfl rfl (Z8 rfl) (Z0 (Gc (.pointer (some ⟨b, 0, none⟩)) 1) rfl rfl (Zc U0 rfl ⟨b, 0, rfl⟩) (Ti (c := .slice sa xs.length c) rfl rfl .plain (fun _ _ h => ⟨h.ch, fun b hb _ => h.below.block b hb⟩) (hl _) rfl (Z0 (Iz (xs.length : Int)) rfl rfl (G3 (v := .slice sa xs.length c) underlying50 rfl r) (Y7 fun g1 w1 hall => ?_))))))))))))
 have hs := hall.1
 refine Z4 rfl (Dj (g := g1) (j := j) (et := 5) rfl underlying191 (by kernel_rfl) h0 rfl rfl (os.ext hs) (r.ext hs) fun g2 w2 hs2 => (Zg (Str.v ⟨xs⟩) rfl rfl ?_))
 exact Z3 (Z9 (G0 rfl rfl (rq (Str.v ⟨xs⟩)) ⟨rfl, g2, hs.stp.trans hs2⟩))
def f29 (x0 : List Z2) : Option ((List Z2)) :=
 (apnd 40 (([] : List Z2)) x0).bind fun y3 =>
 some (y3)
theorem en29 : Enters prog 29 := enters_of func29 (by kernel_rfl) rfl
theorem wk29 {gI : Gh} {wI : World} {x0 : List Z2} {up0 : Value} (rp0 : RV gI.m wI x0 up0) {r : (List Z2)} (h : f29 x0 = some r) : Fn prog 29 #[up0] gI wI (fun m w v => RV m w (r) v) := by
 unfold f29 at h;refine fnE func29 rfl rfl fun g0 hm hfr => ?_;have rp0 := RVc hm rp0;show E _ 6 none _ _ _ _ _;refine Z5 (Zg (.slice none 0 0) rfl rfl (Z3 (Z5 (Z4 rfl (Ga (g := g0) 3003 (xs := ([] : List Z2)) (vs := []) underlying49 sizeOf63 zeroValue63 rfl rfl .nil RVs.nil rfl rfl fun g1 w1 v1 hs o1 r1 hxt hfl => ?_)))));have hfr := hfr.stp hs;have rp0 := rp0.stp hs;refine Zn up0 rfl rfl ?_;obtain ⟨y3, hy3, h⟩ := Z1 h;refine Z4 rfl (Qd (g := g1) (i := 3003) underlying49 V1 rfl rfl o1 r1 rfl rp0 hy3 fun g2 w2 v2 hs o2 r2 _ => ?_);have hfr := hfr.stp hs;refine Zg v2 rfl rfl (Z3 (Z9 ?_));obtain rfl := sinj h;exact G0 rfl rfl (rq v2) ⟨_, hfr, r2⟩
def f30 (x0 : List UInt8) : Option ((List UInt8)) :=
 (apnd 1 (([] : List UInt8)) x0).bind fun y3 =>
 some (y3)
theorem en30 : Enters prog 30 := enters_of func30 (by kernel_rfl) rfl
theorem wk30 {gI : Gh} {wI : World} {x0 : List UInt8} {up0 : Value} (rp0 : RV gI.m wI x0 up0) {r : (List UInt8)} (h : f30 x0 = some r) : Fn prog 30 #[up0] gI wI (fun m w v => RV m w (r) v) := by
 unfold f30 at h;refine fnE func30 rfl rfl fun g0 hm hfr => ?_;have rp0 := RVc hm rp0;show E _ 6 none _ _ _ _ _;refine Z5 (Zg (.slice none 0 0) rfl rfl (Z3 (Z5 (Z4 rfl (Ga (g := g0) 3003 (xs := ([] : List UInt8)) (vs := []) underlying50 sizeOf5 zeroValue5 rfl rfl .nil RVs.nil rfl rfl fun g1 w1 v1 hs o1 r1 hxt hfl => ?_)))));have hfr := hfr.stp hs;have rp0 := rp0.stp hs;refine Zn up0 rfl rfl ?_;obtain ⟨y3, hy3, h⟩ := Z1 h;refine Z4 rfl (Qd (g := g1) (i := 3003) underlying50 Yq rfl rfl o1 r1 rfl rp0 hy3 fun g2 w2 v2 hs o2 r2 _ => ?_);have hfr := hfr.stp hs;refine Zg v2 rfl rfl (Z3 (Z9 ?_));obtain rfl := sinj h;exact G0 rfl rfl (rq v2) ⟨_, hfr, r2⟩
def f35 (x0 : List Z2) (x1 : List Z2) : Option (Bool) :=
 jn (σ := Unit) (fun _ =>
  jn (σ := Unit) (fun _ =>
   some (true)
   ) fun k53 =>
  lp (σ := Int) (fun k54 n8 =>
   jn (σ := Unit) (fun _ =>
    jn (σ := Unit) (fun _ =>
     k54 ((w64 (n8 + (1 : Int))))
     ) fun yE =>
    (idx x0 n8).bind fun nD =>
    (idx x1 n8).bind fun oD =>
    bif (!(decide (nD = oD))) then
     some (false)
    else
     yE ()
    ) fun k57 =>
   bif (decide (n8 < ((x0).length : Int))) then
    k57 ()
   else
    k53 ()
   ) big ((0 : Int))
  ) fun k2 =>
 bif (((x0).length : Int) != ((x1).length : Int)) then
  some (false)
 else
  k2 ()
theorem en35 : Enters prog 35 := enters_of func35 (by kernel_rfl) rfl
theorem wk35 {gI : Gh} {wI : World} {x0 : List Z2} {x1 : List Z2} {up0 : Value} (rp0 : RV gI.m wI x0 up0) {up1 : Value} (rp1 : RV gI.m wI x1 up1) {r : Bool} (h : f35 x0 x1 = some r) : Fn prog 35 #[up0, up1] gI wI (fun _ _ v => v = .bool (r)) := by
 unfold f35 at h;refine fnE func35 rfl rfl fun g0 hm hfr => ?_;have rp0 := RVc hm rp0;have rp1 := RVc hm rp1;show E _ 26 none _ _ _ _ _;refine Z5 (Zg (.bool false) rfl rfl (Z3 (Zq h (fun (s : Unit) e w => ∃ (g : Gh) , Fr gI wI g w ∧ e 0 = up0 ∧ RV g.m w (x0 : List Z2) up0 ∧ e 1 = up1 ∧ RV g.m w (x1 : List Z2) up1) (fun X2 k2 hk2 h => ?_) ?_)))
 ·refine Z5 (Zn up0 rfl rfl (Zx (Iz ((x0).length : Int)) (G3 underlying49 rfl rp0) rfl (Zn up1 rfl rfl (Zx (Iz ((x1).length : Int)) (G3 underlying49 rfl rp1) rfl (Gd (.bool ((((x0).length : Int) != ((x1).length : Int)))) rfl rfl rfl rfl (Z3 ?_))))))
  rcases Zt h with ⟨hc3, h⟩ | ⟨hc3, h⟩
  ·refine Gx hc3 rfl (Z5 (Zg (.bool false) rfl rfl (Z3 (Z9 (Gf ?_)))))
   obtain rfl := sinj h;exact G0 rfl rfl (rq (.bool false)) ⟨_, hfr, rfl⟩
  ·refine Gy hc3 rfl ?_
   exact Zu (Zd (hk2 () _ _ ⟨g0, hfr, rfl, rp0, rfl, rp1⟩ h))
 ·rintro _ oH w4 ⟨g4, hfr, cF, eF, rF, sF⟩ h
  refine Zq h (fun (s : Unit) e w => ∃ (g : Gh) , Fr gI wI g w) (fun X53 k53 vF h => ?_) ?_
  ·refine Z5 (Zg (Iz (0)) rfl rfl (Z3 (Zr (Kv h (fun (s : Int) e w => ∃ (g : Gh) , Fr gI wI g w ∧ e 0 = up0 ∧ RV g.m w (x0 : List Z2) up0 ∧ e 1 = up1 ∧ RV g.m w (x1 : List Z2) up1 ∧ e 5 = Iz (s)) ⟨g4, hfr, cF, eF, rF, sF, rfl⟩ (fun X54 k54 xF => ?_)))))
   rintro n8 jH pH ⟨zE, hfr, oB, yB, vE, xE, zB⟩ h;refine Zq h (fun (s : Unit) e w => ∃ (g : Gh) , Fr gI wI g w ∧ e 0 = up0 ∧ RV g.m w (x0 : List Z2) up0 ∧ e 1 = up1 ∧ RV g.m w (x1 : List Z2) up1 ∧ e 5 = Iz (n8)) (fun X57 k57 yF h => ?_) ?_
   ·refine Z5 (Zo zB rfl (Zo oB rfl (Zx (Iz ((x0).length : Int)) (G3 underlying49 rfl yB) rfl (Gd (.bool ((decide (n8 < ((x0).length : Int))))) rfl rfl rfl rfl (Z3 ?_)))))
    rcases Zt h with ⟨nB, h⟩ | ⟨nB, h⟩
    ·refine Gx nB rfl ?_
     exact Zu (Zd (yF () _ _ ⟨zE, hfr, oB, yB, vE, xE, zB⟩ h))
    ·refine Gy nB rfl (Tu (G5 (G5 (Tf ?_))))
     exact Zd (vF () _ _ ⟨zE, hfr⟩ h)
   ·rintro _ kH qH ⟨gG, hfr, cC, n9, lD, aB, lB⟩ h
    refine Zq h (fun (s : Unit) e w => ∃ (g : Gh) , Fr gI wI g w ∧ e 0 = up0 ∧ RV g.m w (x0 : List Z2) up0 ∧ e 1 = up1 ∧ RV g.m w (x1 : List Z2) up1 ∧ e 5 = Iz (n8)) (fun X81 yE aG h => ?_) ?_
    ·refine Zr (Zf ?_)
     obtain ⟨nD, aE, h⟩ := Z1 h;have iG := Gn n9 aE;refine Zs (x := .tmp 19) isAgg63 sizeOf63 iG fun jG kG bG => ?_;obtain ⟨oD, bE, h⟩ := Z1 h;have lG := Gn aB bE;refine Zs (x := .tmp 23) isAgg63 sizeOf63 lG fun mG yG cG => (T6 (g := gG) (n := 9) [] [0, 1, 2, 3, 4, 5, 6, 7, 8] rfl mixed (by kernel_rfl) trivial (Z0 up0 rfl rfl (Zk cC) (Z0 (Iz (n8)) rfl rfl (Zk lB) (Z0 (Gq up0 n8 5) rfl rfl (Zh (α := Z2) underlying49 sizeOf63 rfl n9 rfl aE) (Ti (c := jG) rfl rfl .plain (fun _ _ h => h.ch) bG rfl (Z0 up1 rfl rfl (Zk lD) (Z0 (Iz (n8)) rfl rfl (Zk lB) (Z0 (Gq up1 n8 5) rfl rfl (Zh (α := Z2) underlying49 sizeOf63 rfl aB rfl bE) (Ti (c := mG) rfl rfl .plain (fun _ _ h => h.ch) cG rfl (Z0 (.bool ((!(decide (nD = oD))))) rfl rfl (M4 Mu rfl O8 rfl rfl kG yG) (Jd fun zG sH hs => ?_)))))))))));have hfr := hfr.ext hs;have n9 := n9.ext hs;have aB := aB.ext hs;clear hs;refine Z3 ?_;rcases Zt h with ⟨mB, h⟩ | ⟨mB, h⟩
     ·refine Gx mB rfl (Z5 (Zg (.bool false) rfl rfl (Z3 (Z9 (G2 (Gf (Gf (G2 (Gf ?_)))))))))
      obtain rfl := sinj h;exact G0 rfl rfl (rq (.bool false)) ⟨_, hfr, rfl⟩
     ·refine Gy mB rfl ?_
      exact Zu (Th (Zd (aG () _ _ ⟨zG, hfr, cC, n9, lD, aB, lB⟩ h)))
    ·rintro _ cH lH ⟨eG, hfr, iE, lE, mE, oE, rE⟩ h
     refine Za (Zo rE rfl (Gd (Iz ((w64 (n8 + (1 : Int))))) rfl rfl rfl rfl (Zg (Iz ((w64 (n8 + (1 : Int))))) rfl rfl ?_)));exact Z3 (xF ((w64 (n8 + (1 : Int)))) _ _ ⟨eG, hfr, iE, lE, mE, oE, rfl⟩ h)
  ·rintro _ gH mH ⟨nH, hfr⟩ h
   refine Z5 (Zg (.bool true) rfl rfl (Z3 (Z9 ?_)));obtain rfl := sinj h;exact G0 rfl rfl (rq (.bool true)) ⟨_, hfr, rfl⟩
def f36 (x0 : List UInt8) (x1 : List UInt8) : Option (Bool) :=
 some ((((⟨x0⟩ : Str)).b == ((⟨x1⟩ : Str)).b))
theorem en36 : Enters prog 36 := enters_of func36 (by kernel_rfl) rfl
theorem wk36 {gI : Gh} {wI : World} {x0 : List UInt8} {x1 : List UInt8} {up0 : Value} (rp0 : RV gI.m wI x0 up0) {up1 : Value} (rp1 : RV gI.m wI x1 up1) {r : Bool} (h : f36 x0 x1 = some r) : Fn prog 36 #[up0, up1] gI wI (fun _ _ v => v = .bool (r)) := by
 unfold f36 at h;refine fnE func36 rfl rfl fun g0 hm hfr => ?_;have rp0 := RVc hm rp0;have rp1 := RVc hm rp1;show E _ 10 none _ _ _ _ _;refine Z5 (Zg (.bool false) rfl rfl (Z3 (Z5 (Zn up0 rfl rfl (Z4 rfl (Sh underlying50 underlying9 underlying5 rfl rp0 (Zn up1 rfl rfl (Z4 rfl (Sh underlying50 underlying9 underlying5 rfl rp1 (Zx (.bool ((((⟨x0⟩ : Str)).b == ((⟨x1⟩ : Str)).b))) (W2 rfl rfl rfl) rfl (Zg (.bool ((((⟨x0⟩ : Str)).b == ((⟨x1⟩ : Str)).b))) rfl rfl (Z3 (Z9 ?_)))))))))))));obtain rfl := sinj h;exact G0 rfl rfl (rq (.bool ((((⟨x0⟩ : Str)).b == ((⟨x1⟩ : Str)).b)))) ⟨_, hfr, rfl⟩
def f52  : Option (Gg) :=
 some ((⟨([(⟨(⟨[112, 108, 97, 105, 110]⟩ : Str), (⟨(2 : Int), ([(0 : Int), (1 : Int), (0 : Int)] : List Int)⟩ : TieHarness)⟩ : Gs)] : List Gs), ([(⟨(⟨[116, 119, 105, 108, 108]⟩ : Str), (⟨(2 : Int), ([(⟨(0 : Int), (1 : Int), false⟩ : Gb), (⟨(-1 : Int), (1 : Int), true⟩ : Gb)] : List Gb)⟩ : ChainBelt)⟩ : Gi)] : List Gi)⟩ : Gg))
theorem en52 : Enters prog 52 := enters_of func52 (by kernel_rfl) rfl
theorem wk52 {gI : Gh} {wI : World}   {r : Gg} (h : f52  = some r) : Fn prog 52 #[] gI wI (fun m w v => RV m w (r) v) := by
 unfold f52 at h;refine fnE func52 rfl rfl fun g0 hm hfr => ?_;show E _ 12 none _ _ _ _ _;refine Z5 (Z4 rfl (Td (g := g0) 2000 (⟨[], []⟩ : Gg) zeroValue39 (fun m w => ⟨_, (Gk Q0 Q0), rfl⟩) fun g1 w1 p1 hs b1 cb => ?_));have hfr := hfr.stp hs;have mE : OSF 2000 60000 0 g1 w1 108 39 ([] : List Gs) p1 := cb.osf (by rfl);have oE : OSF 2000 60001 1 g1 w1 94 39 ([] : List Gi) p1 := cb.osf (by rfl);clear cb;refine Z3 (Z5 (Z4 rfl (Ga (g := g1) 3001 (xs := ([(0 : Int), (1 : Int), (0 : Int)] : List Int)) (vs := [Iz (0), Iz (1), Iz (0)]) underlying22 sizeOf3 zeroValue3 rfl rfl (.cons rfl (.cons rfl (.cons rfl .nil))) (RVs.cons (Zj.2 rfl) (RVs.cons (Zj.2 rfl) (RVs.cons (Zj.2 rfl) RVs.nil))) rfl rfl fun g2 w2 v2 hs o2 r2 hxt hfl => ?_)));have hfr := hfr.stp hs;have b1 := b1.stp hs rfl;have r3 : RV g2.m _ (⟨(2 : Int), ([(0 : Int), (1 : Int), (0 : Int)] : List Int)⟩ : TieHarness) (.agg (Qf [[Iz 0], [.slice none 0 0]] [(0, Iz (2)), (1, v2)]).flatten.toArray) := Qq rfl (Tq (rfl) (Qv (RV.cells r2)));generalize hv3 : (Value.agg (Qf [[Iz 0], [.slice none 0 0]] [(0, Iz (2)), (1, v2)]).flatten.toArray) = v3 at r3;refine Zx v3 (hv3 ▸ T7 (vs := [(0, Iz (2)), (1, v2)]) [[Iz 0], [.slice none 0 0]] N1 rfl rfl (.cons rfl (.cons rfl .nil)) ⟨⟨_, rfl, rfl⟩, ⟨⟨_, rfl, T4 r2⟩, trivial⟩⟩) rfl ?_;have r4 : RV g2.m _ (⟨(⟨[112, 108, 97, 105, 110]⟩ : Str), (⟨(2 : Int), ([(0 : Int), (1 : Int), (0 : Int)] : List Int)⟩ : TieHarness)⟩ : Gs) (.agg (Qf [[Str.v ⟨[]⟩], [Iz 0, .slice none 0 0]] [(0, Str.v (⟨[112, 108, 97, 105, 110]⟩ : Str)), (1, v3)]).flatten.toArray) := Qq rfl (Tq (rfl) (Qv (RV.cells r3)));generalize zB : (Value.agg (Qf [[Str.v ⟨[]⟩], [Iz 0, .slice none 0 0]] [(0, Str.v (⟨[112, 108, 97, 105, 110]⟩ : Str)), (1, v3)]).flatten.toArray) = v4 at r4;refine Zx v4 (zB ▸ T7 (vs := [(0, Str.v (⟨[112, 108, 97, 105, 110]⟩ : Str)), (1, v3)]) [[Str.v ⟨[]⟩], [Iz 0, .slice none 0 0]] Nm rfl rfl (.cons rfl (.cons rfl .nil)) ⟨⟨_, rfl, rfl⟩, ⟨⟨_, rfl, T4 r3⟩, trivial⟩⟩) rfl (Z4 rfl (Ga (g := g2) 3004 (xs := ([(⟨(⟨[112, 108, 97, 105, 110]⟩ : Str), (⟨(2 : Int), ([(0 : Int), (1 : Int), (0 : Int)] : List Int)⟩ : TieHarness)⟩ : Gs)] : List Gs)) (vs := [v4]) underlying36 sizeOf108 zeroValue108 rfl rfl (.cons rfl .nil) (RVs.cons r4 RVs.nil) rfl rfl fun g5 w5 v5 hs o5 r5 hxt hfl => ?_));have hfr := hfr.stp hs;have b1 := b1.stp hs rfl;have r6 : RV g5.m w5 (⟨(0 : Int), (1 : Int), false⟩ : Gb) (.agg (Qf [[Iz 0], [Iz 0], [.bool false]] [(0, Iz (0)), (1, Iz (1))]).flatten.toArray) := Qq rfl (Tq (rfl) (Tq (rfl) (Qv (Ba))));generalize cC : (Value.agg (Qf [[Iz 0], [Iz 0], [.bool false]] [(0, Iz (0)), (1, Iz (1))]).flatten.toArray) = v6 at r6;refine Zx v6 (cC ▸ T7 (vs := [(0, Iz (0)), (1, Iz (1))]) [[Iz 0], [Iz 0], [.bool false]] Aw rfl rfl (.cons rfl (.cons rfl .nil)) ⟨⟨_, rfl, rfl⟩, ⟨⟨_, rfl, rfl⟩, trivial⟩⟩) rfl ?_;have r7 : RV g5.m w5 (⟨(-1 : Int), (1 : Int), true⟩ : Gb) (.agg (Qf [[Iz 0], [Iz 0], [.bool false]] [(0, Iz (-1)), (1, Iz (1)), (2, .bool true)]).flatten.toArray) := Qq rfl (Tq (rfl) (Tq (rfl) (Qv (rfl))));generalize lD : (Value.agg (Qf [[Iz 0], [Iz 0], [.bool false]] [(0, Iz (-1)), (1, Iz (1)), (2, .bool true)]).flatten.toArray) = v7 at r7;refine Zx v7 (lD ▸ T7 (vs := [(0, Iz (-1)), (1, Iz (1)), (2, .bool true)]) [[Iz 0], [Iz 0], [.bool false]] Aw rfl rfl (.cons rfl (.cons rfl (.cons rfl .nil))) ⟨⟨_, rfl, rfl⟩, ⟨⟨_, rfl, rfl⟩, ⟨⟨_, rfl, rfl⟩, trivial⟩⟩⟩) rfl (Z4 rfl (Ga (g := g5) 3007 (xs := ([(⟨(0 : Int), (1 : Int), false⟩ : Gb), (⟨(-1 : Int), (1 : Int), true⟩ : Gb)] : List Gb)) (vs := [v6, v7]) underlying90 sizeOf96 zeroValue96 rfl rfl (.cons rfl (.cons rfl .nil)) (RVs.cons r6 (RVs.cons r7 RVs.nil)) rfl rfl fun g8 w8 v8 hs o8 r8 hxt hfl => ?_));have hfr := hfr.stp hs;have b1 := b1.stp hs rfl;have r5 := r5.stp hs;have o5 := o5.stp hs rfl;have r9 : RV g8.m _ (⟨(2 : Int), ([(⟨(0 : Int), (1 : Int), false⟩ : Gb), (⟨(-1 : Int), (1 : Int), true⟩ : Gb)] : List Gb)⟩ : ChainBelt) (.agg (Qf [[Iz 0], [.slice none 0 0]] [(0, Iz (2)), (1, v8)]).flatten.toArray) := Qq rfl (Tq (rfl) (Qv (RV.cells r8)))
 generalize nD : (Value.agg (Qf [[Iz 0], [.slice none 0 0]] [(0, Iz (2)), (1, v8)]).flatten.toArray) = v9 at r9;refine Zx v9 (nD ▸ T7 (vs := [(0, Iz (2)), (1, v8)]) [[Iz 0], [.slice none 0 0]] lay_92 rfl rfl (.cons rfl (.cons rfl .nil)) ⟨⟨_, rfl, rfl⟩, ⟨⟨_, rfl, T4 r8⟩, trivial⟩⟩) rfl ?_;have r10 : RV g8.m _ (⟨(⟨[116, 119, 105, 108, 108]⟩ : Str), (⟨(2 : Int), ([(⟨(0 : Int), (1 : Int), false⟩ : Gb), (⟨(-1 : Int), (1 : Int), true⟩ : Gb)] : List Gb)⟩ : ChainBelt)⟩ : Gi) (.agg (Qf [[Str.v ⟨[]⟩], [Iz 0, .slice none 0 0]] [(0, Str.v (⟨[116, 119, 105, 108, 108]⟩ : Str)), (1, v9)]).flatten.toArray) := Qq rfl (Tq (rfl) (Qv (RV.cells r9)));generalize oB : (Value.agg (Qf [[Str.v ⟨[]⟩], [Iz 0, .slice none 0 0]] [(0, Str.v (⟨[116, 119, 105, 108, 108]⟩ : Str)), (1, v9)]).flatten.toArray) = v10 at r10;refine Zx v10 (oB ▸ T7 (vs := [(0, Str.v (⟨[116, 119, 105, 108, 108]⟩ : Str)), (1, v9)]) [[Str.v ⟨[]⟩], [Iz 0, .slice none 0 0]] lay_94 rfl rfl (.cons rfl (.cons rfl .nil)) ⟨⟨_, rfl, rfl⟩, ⟨⟨_, rfl, T4 r9⟩, trivial⟩⟩) rfl (Z4 rfl (Ga (g := g8) 3010 (xs := ([(⟨(⟨[116, 119, 105, 108, 108]⟩ : Str), (⟨(2 : Int), ([(⟨(0 : Int), (1 : Int), false⟩ : Gb), (⟨(-1 : Int), (1 : Int), true⟩ : Gb)] : List Gb)⟩ : ChainBelt)⟩ : Gi)] : List Gi)) (vs := [v10]) underlying37 sizeOf94 zeroValue94 rfl rfl (.cons rfl .nil) (RVs.cons r10 RVs.nil) rfl rfl fun g11 w11 n9 hs o11 lB hxt hfl => ?_));have hfr := hfr.stp hs;have b1 := b1.stp hs rfl;have r5 := r5.stp hs;have o5 := o5.stp hs rfl;have mB : RV g11.m _ (⟨([(⟨(⟨[112, 108, 97, 105, 110]⟩ : Str), (⟨(2 : Int), ([(0 : Int), (1 : Int), (0 : Int)] : List Int)⟩ : TieHarness)⟩ : Gs)] : List Gs), ([(⟨(⟨[116, 119, 105, 108, 108]⟩ : Str), (⟨(2 : Int), ([(⟨(0 : Int), (1 : Int), false⟩ : Gb), (⟨(-1 : Int), (1 : Int), true⟩ : Gb)] : List Gb)⟩ : ChainBelt)⟩ : Gi)] : List Gi)⟩ : Gg) (.agg (Qf [[.slice none 0 0], [.slice none 0 0]] [(0, v5), (1, n9)]).flatten.toArray) := Qq rfl (Tq (RV.cells r5) (Qv (RV.cells lB)));generalize aB : (Value.agg (Qf [[.slice none 0 0], [.slice none 0 0]] [(0, v5), (1, n9)]).flatten.toArray) = nB at mB;refine Zx nB (aB ▸ T7 (vs := [(0, v5), (1, n9)]) [[.slice none 0 0], [.slice none 0 0]] lay_39 rfl rfl (.cons rfl (.cons rfl .nil)) ⟨⟨_, rfl, T4 r5⟩, ⟨⟨_, rfl, T4 lB⟩, trivial⟩⟩) rfl (Z4 rfl (Gv (g := g11) (v := nB) sizeOf39 rfl b1 rfl mB fun oD aE hs b13 cb => ?_));obtain ⟨bE, iE, n8, _, _⟩ := Qc r5;have lE : OSF 2000 3004 0 oD aE 108 39 (([(⟨(⟨[112, 108, 97, 105, 110]⟩ : Str), (⟨(2 : Int), ([(0 : Int), (1 : Int), (0 : Int)] : List Int)⟩ : TieHarness)⟩ : Gs)] : List Gs) : List Gs) p1 := cb.osfv (by rw [← aB, n8]; rfl) (o5.stp hs rfl);clear cb;have hfr := hfr.stp hs;refine Z3 (Z9 ?_);obtain rfl := sinj h;obtain ⟨ad14, cv14, hp14, yB, cr14⟩ := Qy isAgg39 sizeOf39 b13;exact Fd rfl rfl ((rq p1).trans hp14) yB ⟨_, hfr, cr14⟩
def f53 (x0 : Int) (x1 : Int) : Option (Z2) :=
 some ((⟨x0, 0, 0, 0, x1⟩ : Z2))
theorem en53 : Enters prog 53 := enters_of func53 (by kernel_rfl) rfl
theorem wk53 {gI : Gh} {wI : World} {x0 : Int} {x1 : Int}  {r : Z2} (h : f53 x0 x1 = some r) : Fn prog 53 #[Iz (x0), Iz (x1)] gI wI (fun m w v => RV m w (r) v) := by
 unfold f53 at h;refine fnE func53 rfl rfl fun g0 hm hfr => ?_;show E _ 8 none _ _ _ _ _;refine Z5 (Z4 rfl (Td (g := g0) 2004 (⟨0, 0, 0, 0, 0⟩ : Z2) zeroValue63 (fun m w => ⟨_, (Gk Zw (Gk Zw (Gk Zw (Gk Zw Zw)))), rfl⟩) fun g1 w1 p1 hs b1 cb => ?_));have hfr := hfr.stp hs;clear cb;refine Z3 (Z5 (Zn (Iz (x0)) rfl rfl (Zn (Iz (x1)) rfl rfl ?_)));have r2 : RV g1.m w1 (⟨x0, 0, 0, 0, x1⟩ : Z2) (.agg (Qf [[Iz 0], [Iz 0], [Iz 0], [Iz 0], [Iz 0]] [(0, Iz (x0)), (4, Iz (x1))]).flatten.toArray) := Qq rfl (Tq (rfl) (Tq (Zw) (Tq (Zw) (Tq (Zw) (Qv (rfl))))));generalize hv2 : (Value.agg (Qf [[Iz 0], [Iz 0], [Iz 0], [Iz 0], [Iz 0]] [(0, Iz (x0)), (4, Iz (x1))]).flatten.toArray) = v2 at r2;refine Zx v2 (hv2 ▸ T7 (vs := [(0, Iz (x0)), (4, Iz (x1))]) [[Iz 0], [Iz 0], [Iz 0], [Iz 0], [Iz 0]] Bf rfl rfl (.cons rfl (.cons rfl .nil)) ⟨⟨_, rfl, rfl⟩, ⟨⟨_, rfl, rfl⟩, trivial⟩⟩) rfl (Z4 rfl (Gv (g := g1) (v := v2) sizeOf63 rfl b1 rfl r2 fun g3 w3 hs b3 cb => ?_));clear cb;have hfr := hfr.stp hs;refine Z3 (Z9 ?_);obtain rfl := sinj h;obtain ⟨ad4, cv4, hp4, n8, cr4⟩ := Qy isAgg63 sizeOf63 b3;exact Fd rfl rfl ((rq p1).trans hp4) n8 ⟨_, hfr, cr4⟩
def f55 (x0 : Int) (x1 : Int) : Option (Str) :=
 Option.bind (α := List UInt8) (
  lp (σ := List UInt8 × Int) (fun k18 (aB, n8) =>
   bif (decide (n8 < x1)) then
    Option.bind (α := List UInt8) (
     (Kz x0 n8).bind fun cC =>
     bif ((W5 .and cC (1 : Int)) == (1 : Int)) then
      (apnd 1 aB [(120 : UInt8)]).bind fun vE =>
      some (vE)
     else
      (apnd 1 aB [(46 : UInt8)]).bind fun xE =>
      some (xE)
     ) fun lB =>
    k18 (lB, (w64 (n8 + (1 : Int))))
   else
    some (aB)
   ) big (([] : List UInt8), (0 : Int))
  ) fun nB =>
 (F7 nB).bind fun oD =>
 some (oD)
theorem en55 : Enters prog 55 := enters_of func55 (by kernel_rfl) rfl
theorem wk55 {gI : Gh} {wI : World} {x0 : Int} {x1 : Int}  {r : Str} (h : f55 x0 x1 = some r) : Fn prog 55 #[Iz (x0), Iz (x1)] gI wI (fun _ _ v => v = Str.v (r)) := by
 unfold f55 at h;refine fnE func55 rfl rfl fun g0 hm hfr => ?_;show E _ 20 none _ _ _ _ _;refine Z5 (Zg (Str.v (⟨[]⟩ : Str)) rfl rfl (Z3 (Z5 (Z4 rfl (Td (g := g0) 2005 ((⟨.pointer none, rfl⟩, []) : Fv × List UInt8) zeroValue131 (fun m w => ⟨_, Gk (show GoT.rep m w (⟨.pointer none, rfl⟩ : Fv) [.pointer none] from rfl) Q0, rfl⟩) fun g1 w1 p1 hs b1 cb => ?_)))));have hfr := hfr.stp hs;replace b1 : SB 2005 60501 g1 w1 5 131 [] p1 := ⟨_, b1, cb.osf rfl, .inl rfl⟩;clear cb;refine Z3 ?_;obtain ⟨nB, hx, h⟩ := Z1 h;refine G6 (fun e w => ∃ (g : Gh) , Fr gI wI g w ∧ e 5 = p1 ∧ SB 2005 60501 g w 5 131 (nB) p1) (fun Q' hQ => ?_) (fun aG eG hR => ?_)
 ·replace h := hx
  clear hx;refine Z5 (Zn (Iz (x1)) rfl rfl (Zn (Iz (0)) rfl rfl (Z3 (Zr (Kv h (fun (s : List UInt8 × Int) e w => ∃ (g : Gh) , Fr gI wI g w ∧ e 0 = Iz (x0) ∧ e 5 = p1 ∧ SB 2005 60501 g w 5 131 (s.1) p1 ∧ e 7 = Iz (x1) ∧ e 8 = Iz (s.2)) ⟨g1, hfr, rfl, rfl, b1, rfl, rfl⟩ (fun X18 k18 yE => ?_))))));rintro ⟨aB, n8⟩ bG gG ⟨sF, hfr, oB, n9, yB, zB, mB⟩ h;refine Z5 (Gd (.bool ((decide (n8 < x1)))) mB zB rfl rfl (Z3 (Zf ?_)));rcases Zt h with ⟨lD, h⟩ | ⟨lD, h⟩
  ·refine Gx lD rfl (Zu (Zd ?_))
   obtain ⟨lB, hx, h⟩ := Z1 h;refine G6 (fun e w => ∃ (g : Gh) , Fr gI wI g w ∧ e 0 = Iz (x0) ∧ e 5 = p1 ∧ SB 2005 60501 g w 5 131 (lB) p1 ∧ e 7 = Iz (x1) ∧ e 8 = Iz (n8)) (fun Q' hQ => ?_) (fun cG iG hR => ?_)
   ·replace h := hx
    clear hx;refine Zr (Z5 (Zo mB rfl (Zg (Iz (n8)) rfl rfl (Z3 (Z5 (Zo oB rfl (Zn (Iz (n8)) rfl rfl ?_)))))));obtain ⟨cC, zE, h⟩ := Z1 h;refine Zx (Iz (cC)) (Gp rfl rfl (congrArg (Option.map (Value.int .i64)) zE)) rfl (Gd (Iz ((W5 .and cC (1 : Int)))) rfl rfl rfl rfl (Gd (.bool (((W5 .and cC (1 : Int)) == (1 : Int)))) rfl rfl rfl rfl (Z3 ?_)));rcases Zt h with ⟨nD, h⟩ | ⟨nD, h⟩
    ·refine Gx nD rfl (Za ?_)
     obtain ⟨vE, cF, h⟩ := Z1 h;refine Z4 rfl (Qg (vs := [p1, .int .u8 (UInt8.toNat 120)]) en101 (.cons n9 (.cons rfl .nil)) (wk101 (i := 2005) (j := 60501) rfl rfl yB cF) fun jG w29 hq => ?_);obtain ⟨hv, vF, ⟨_, _, _, _, hs1, hs2, hs3⟩, b29⟩ := hq;subst hv;have hfr := hfr.stp hs1;have hfr := hfr.stp hs2;have hfr := hfr.stp hs3;clear hs1 hs2 hs3;refine Zb (Th ?_);obtain rfl := sinj h;exact hQ _ _ ⟨vF, hfr, oB, n9, b29, zB, mB⟩
    ·refine Gy nD rfl (Za ?_)
     obtain ⟨xE, eF, h⟩ := Z1 h;refine Z4 rfl (Qg (vs := [p1, .int .u8 (UInt8.toNat 46)]) en101 (.cons n9 (.cons rfl .nil)) (wk101 (i := 2005) (j := 60501) rfl rfl yB eF) fun kG lG hq => ?_);obtain ⟨hv, xF, ⟨_, _, _, _, hs1, hs2, hs3⟩, b31⟩ := hq;subst hv;have hfr := hfr.stp hs1;have hfr := hfr.stp hs2;have hfr := hfr.stp hs3;clear hs1 hs2 hs3;refine Zb (Th ?_);obtain rfl := sinj h;exact hQ _ _ ⟨xF, hfr, oB, n9, b31, zB, mB⟩
   ·clear hx
    obtain ⟨yF, hfr, aE, bE, iE, lE, mE⟩ := hR;refine Za (Gd (Iz ((w64 (n8 + (1 : Int))))) mE rfl rfl rfl (Zn (Iz ((w64 (n8 + (1 : Int))))) rfl rfl ?_));exact Z3 (yE (lB, (w64 (n8 + (1 : Int)))) _ _ ⟨yF, hfr, aE, bE, iE, lE, rfl⟩ h)
  ·refine Gy lD rfl (Tu (G5 (G5 (Tf ?_))))
   obtain rfl := sinj h;exact hQ _ _ ⟨sF, hfr, n9, yB⟩
 ·clear hx
  obtain ⟨mG, hfr, oE, rE⟩ := hR;refine Z5 ?_;obtain ⟨oD, rF, h⟩ := Z1 h;obtain ⟨hne35, hye35⟩ := Lp rF;refine Z4 rfl (Qg (vs := [p1]) en71 (.cons oE .nil) (wk71 (i := 2005) (j := 60501) rfl rE hne35) fun yG zG hq => ?_);obtain ⟨hv, cH, hs⟩ := hq;rw [← hye35] at hv;subst hv;have hfr := hfr.stp hs;refine Zg (Str.v oD) rfl rfl (Z3 (Z9 ?_));obtain rfl := sinj h;exact G0 rfl rfl (rq (Str.v oD)) ⟨_, hfr, rfl⟩
def f56 (x0 : Int) (x1 : Int) (x2 : Int) : Option (Bool) :=
 Option.bind (α := Bool) (
  bif (decide (x0 ≥ x1)) then
   some ((decide (x0 ≤ x2)))
  else
   some (false)
  ) fun n8 =>
 some (n8)
theorem en56 : Enters prog 56 := enters_of func56 (by kernel_rfl) rfl
theorem wk56 {gI : Gh} {wI : World} {x0 : Int} {x1 : Int} {x2 : Int}  {r : Bool} (h : f56 x0 x1 x2 = some r) : Fn prog 56 #[Iz (x0), Iz (x1), Iz (x2)] gI wI (fun _ _ v => v = .bool (r)) := by
 unfold f56 at h;refine fnE func56 rfl rfl fun g0 hm hfr => ?_;show E _ 15 none _ _ _ _ _;refine Z5 (Zg (.bool false) rfl rfl (Z3 ?_));obtain ⟨n8, hx, h⟩ := Z1 h;refine G6 (fun e w => ∃ (g : Gh) , Fr gI wI g w ∧ e 6 = .bool (n8)) (fun Q' hQ => ?_) (fun aB w3 hR => ?_)
 ·replace h := hx
  clear hx;refine Za (Zn (Iz (x0)) rfl rfl (Zn (Iz (x1)) rfl rfl (Gd (.bool ((decide (x0 ≥ x1)))) rfl rfl rfl rfl (Zn (.bool ((decide (x0 ≥ x1)))) rfl rfl ?_))));rcases Zt h with ⟨hc2, h⟩ | ⟨hc2, h⟩
  ·refine Zy (Iz (x0)) (Zk rfl) rfl rfl hc2 rfl (Zy (Iz (x2)) (Zk rfl) rfl rfl hc2 rfl (Zy (.bool ((decide (x0 ≤ x2)))) (Gp rfl rfl rfl) rfl rfl hc2 rfl (Zx (.bool ((decide (x0 ≤ x2)))) (Zl (b := (decide (x0 ≥ x1))) rfl (Tc hc2 rfl)) rfl (Zg (.bool ((decide (x0 ≤ x2)))) rfl rfl (Zb ?_)))))
   obtain rfl := sinj h;exact hQ _ _ ⟨g0, hfr, rfl⟩
  ·refine Zz rfl rfl hc2 rfl rfl (Zz rfl rfl hc2 rfl rfl (Zz rfl rfl hc2 rfl rfl (Zx (.bool false) (Zl (b := (decide (x0 ≥ x1))) rfl (Gz hc2 rfl)) rfl (Zg (.bool false) rfl rfl (Zb ?_)))))
   obtain rfl := sinj h;exact hQ _ _ ⟨g0, hfr, rfl⟩
 ·clear hx
  obtain ⟨g3, hfr, n9⟩ := hR;refine Z9 ?_;obtain rfl := sinj h;exact G0 rfl rfl (show _ = .bool (n8) from n9) ⟨_, hfr, rfl⟩
def f58 (x0 : List Int) (x1 : List Int) : Option (Bool) :=
 jn (σ := Unit) (fun _ =>
  jn (σ := Unit) (fun _ =>
   some (true)
   ) fun k53 =>
  lp (σ := Int) (fun k54 n8 =>
   jn (σ := Unit) (fun _ =>
    jn (σ := Unit) (fun _ =>
     k54 ((w64 (n8 + (1 : Int))))
     ) fun yE =>
    (idx x0 n8).bind fun oB =>
    (idx x1 n8).bind fun yB =>
    bif (oB != yB) then
     some (false)
    else
     yE ()
    ) fun k57 =>
   bif (decide (n8 < ((x0).length : Int))) then
    k57 ()
   else
    k53 ()
   ) big ((0 : Int))
  ) fun k2 =>
 bif (((x0).length : Int) != ((x1).length : Int)) then
  some (false)
 else
  k2 ()
theorem en58 : Enters prog 58 := enters_of func58 (by kernel_rfl) rfl
theorem wk58 {gI : Gh} {wI : World} {x0 : List Int} {x1 : List Int} {up0 : Value} (rp0 : RV gI.m wI x0 up0) {up1 : Value} (rp1 : RV gI.m wI x1 up1) {r : Bool} (h : f58 x0 x1 = some r) : Fn prog 58 #[up0, up1] gI wI (fun _ _ v => v = .bool (r)) := by
 unfold f58 at h;refine fnE func58 rfl rfl fun g0 hm hfr => ?_;have rp0 := RVc hm rp0;have rp1 := RVc hm rp1;show E _ 26 none _ _ _ _ _;refine Z5 (Zg (.bool false) rfl rfl (Z3 (Zq h (fun (s : Unit) e w => ∃ (g : Gh) , Fr gI wI g w ∧ e 0 = up0 ∧ RV g.m w (x0 : List Int) up0 ∧ e 1 = up1 ∧ RV g.m w (x1 : List Int) up1) (fun X2 k2 hk2 h => ?_) ?_)))
 ·refine Z5 (Zn up0 rfl rfl (Zx (Iz ((x0).length : Int)) (G3 underlying22 rfl rp0) rfl (Zn up1 rfl rfl (Zx (Iz ((x1).length : Int)) (G3 underlying22 rfl rp1) rfl (Gd (.bool ((((x0).length : Int) != ((x1).length : Int)))) rfl rfl rfl rfl (Z3 ?_))))))
  rcases Zt h with ⟨hc3, h⟩ | ⟨hc3, h⟩
  ·refine Gx hc3 rfl (Z5 (Zg (.bool false) rfl rfl (Z3 (Z9 (Gf ?_)))))
   obtain rfl := sinj h;exact G0 rfl rfl (rq (.bool false)) ⟨_, hfr, rfl⟩
  ·refine Gy hc3 rfl ?_
   exact Zu (Zd (hk2 () _ _ ⟨g0, hfr, rfl, rp0, rfl, rp1⟩ h))
 ·rintro _ mH w4 ⟨g4, hfr, cF, eF, rF, sF⟩ h
  refine Zq h (fun (s : Unit) e w => ∃ (g : Gh) , Fr gI wI g w) (fun X53 k53 vF h => ?_) ?_
  ·refine Z5 (Zg (Iz (0)) rfl rfl (Z3 (Zr (Kv h (fun (s : Int) e w => ∃ (g : Gh) , Fr gI wI g w ∧ e 0 = up0 ∧ RV g.m w (x0 : List Int) up0 ∧ e 1 = up1 ∧ RV g.m w (x1 : List Int) up1 ∧ e 5 = Iz (s)) ⟨g4, hfr, cF, eF, rF, sF, rfl⟩ (fun X54 k54 xF => ?_)))))
   rintro n8 cH nH ⟨zE, hfr, zB, cC, vE, xE, lD⟩ h;refine Zq h (fun (s : Unit) e w => ∃ (g : Gh) , Fr gI wI g w ∧ e 0 = up0 ∧ RV g.m w (x0 : List Int) up0 ∧ e 1 = up1 ∧ RV g.m w (x1 : List Int) up1 ∧ e 5 = Iz (n8)) (fun X57 k57 yF h => ?_) ?_
   ·refine Z5 (Zo lD rfl (Zo zB rfl (Zx (Iz ((x0).length : Int)) (G3 underlying22 rfl cC) rfl (Gd (.bool ((decide (n8 < ((x0).length : Int))))) rfl rfl rfl rfl (Z3 ?_)))))
    rcases Zt h with ⟨nB, h⟩ | ⟨nB, h⟩
    ·refine Gx nB rfl ?_
     exact Zu (Zd (yF () _ _ ⟨zE, hfr, zB, cC, vE, xE, lD⟩ h))
    ·refine Gy nB rfl (Tu (G5 (G5 (Tf ?_))))
     exact Zd (vF () _ _ ⟨zE, hfr⟩ h)
   ·rintro _ gH oH ⟨gG, hfr, nD, n9, oD, aB, lB⟩ h
    refine Zq h (fun (s : Unit) e w => ∃ (g : Gh) , Fr gI wI g w ∧ e 0 = up0 ∧ RV g.m w (x0 : List Int) up0 ∧ e 1 = up1 ∧ RV g.m w (x1 : List Int) up1 ∧ e 5 = Iz (n8)) (fun X81 yE aG h => ?_) ?_
    ·refine Zr (Zf ?_)
     obtain ⟨oB, aE, h⟩ := Z1 h;have iG := Gn n9 aE;refine Zs (x := .tmp 19) isAgg3 sizeOf3 iG fun pH jG bG => ?_;obtain rfl := Zj.1 jG;obtain ⟨yB, bE, h⟩ := Z1 h;have kG := Gn aB bE;refine Zs (x := .tmp 23) isAgg3 sizeOf3 kG fun qH lG cG => ?_;obtain rfl := Zj.1 lG;refine T6 (g := gG) (n := 9) [] [0, 1, 2, 3, 4, 5, 6, 7, 8] rfl mixed (by kernel_rfl) trivial (Z0 up0 rfl rfl (Zk nD) (Z0 (Iz (n8)) rfl rfl (Zk lB) (Z0 (Gq up0 n8 1) rfl rfl (Zh (α := Int) underlying22 sizeOf3 rfl n9 rfl aE) (Ti (c := Iz (oB)) rfl rfl .plain (fun _ _ h => h.ch) bG rfl (Z0 up1 rfl rfl (Zk oD) (Z0 (Iz (n8)) rfl rfl (Zk lB) (Z0 (Gq up1 n8 1) rfl rfl (Zh (α := Int) underlying22 sizeOf3 rfl aB rfl bE) (Ti (c := Iz (yB)) rfl rfl .plain (fun _ _ h => h.ch) cG rfl (Z0 (.bool ((oB != yB))) rfl rfl (Gp rfl rfl rfl) (Jd fun mG sH hs => ?_))))))))));have hfr := hfr.ext hs;have n9 := n9.ext hs;have aB := aB.ext hs;clear hs;refine Z3 ?_;rcases Zt h with ⟨mB, h⟩ | ⟨mB, h⟩
     ·refine Gx mB rfl (Z5 (Zg (.bool false) rfl rfl (Z3 (Z9 (G2 (Gf (Gf (G2 (Gf ?_)))))))))
      obtain rfl := sinj h;exact G0 rfl rfl (rq (.bool false)) ⟨_, hfr, rfl⟩
     ·refine Gy mB rfl ?_
      exact Zu (Th (Zd (aG () _ _ ⟨mG, hfr, nD, n9, oD, aB, lB⟩ h)))
    ·rintro _ yG jH ⟨eG, hfr, iE, lE, mE, oE, rE⟩ h
     refine Za (Zo rE rfl (Gd (Iz ((w64 (n8 + (1 : Int))))) rfl rfl rfl rfl (Zg (Iz ((w64 (n8 + (1 : Int))))) rfl rfl ?_)));exact Z3 (xF ((w64 (n8 + (1 : Int)))) _ _ ⟨eG, hfr, iE, lE, mE, oE, rfl⟩ h)
  ·rintro _ zG kH ⟨lH, hfr⟩ h
   refine Z5 (Zg (.bool true) rfl rfl (Z3 (Z9 ?_)));obtain rfl := sinj h;exact G0 rfl rfl (rq (.bool true)) ⟨_, hfr, rfl⟩
def f70 (x0 : Str) : Option (Int) :=
 Option.bind (α := Int) (
  lp (σ := Int × Int) (fun k7 (aB, n8) =>
   bif (decide (n8 < ((x0).b.length : Int))) then
    Option.bind (α := Int) (
     (idx (x0).b n8).bind fun y11 =>
     some ((w64 (aB + ((y11).toNat : Int))))
     ) fun n9 =>
    k7 (n9, (w64 (n8 + (1 : Int))))
   else
    some (aB)
   ) big ((0 : Int), (0 : Int))
  ) fun lB =>
 (H3 lB (65536 : Int)).bind fun mB =>
 some (mB)
theorem en70 : Enters prog 70 := enters_of func70 (by kernel_rfl) rfl
theorem wk70 {gI : Gh} {wI : World} {x0 : Str}  {r : Int} (h : f70 x0 = some r) : Fn prog 70 #[Str.v (x0)] gI wI (fun _ _ v => v = Iz (r)) := by
 unfold f70 at h;refine fnE func70 rfl rfl fun g0 hm hfr => ?_;show E _ 18 none _ _ _ _ _;refine Z5 (Zg (Iz (0)) rfl rfl (Z3 ?_));obtain ⟨lB, hx, h⟩ := Z1 h;refine G6 (fun e w => ∃ (g : Gh) , Fr gI wI g w ∧ e 2 = Iz (lB)) (fun Q' hQ => ?_) (fun mE rE hR => ?_)
 ·replace h := hx
  clear hx;refine Z5 (Zn (Str.v (x0)) rfl rfl (Zx (Iz ((x0).b.length : Int)) (H8 underlying9 rfl) rfl (Zn (Iz (0)) rfl rfl (Z3 (Zr (Kv h (fun (s : Int × Int) e w => ∃ (g : Gh) , Fr gI wI g w ∧ e 0 = Str.v (x0) ∧ e 2 = Iz (s.1) ∧ e 5 = Iz (((x0).b.length : Int)) ∧ e 6 = Iz (s.2)) ⟨g0, hfr, rfl, rfl, rfl, rfl⟩ (fun X7 k7 hk7 => ?_)))))));rintro ⟨aB, n8⟩ vE w8 ⟨g8, hfr, oB, yB, zB, nB⟩ h;refine Z5 (Gd (.bool ((decide (n8 < ((x0).b.length : Int))))) nB zB rfl rfl (Z3 (Zf ?_)));rcases Zt h with ⟨hc9, h⟩ | ⟨hc9, h⟩
  ·refine Gx hc9 rfl (Zu (Zd ?_))
   obtain ⟨n9, hx, h⟩ := Z1 h;refine G6 (fun e w => ∃ (g : Gh) , Fr gI wI g w ∧ e 0 = Str.v (x0) ∧ e 2 = Iz (n9) ∧ e 5 = Iz (((x0).b.length : Int)) ∧ e 6 = Iz (n8)) (fun Q' hQ => ?_) (fun oE xE hR => ?_)
   ·replace h := hx
    clear hx;refine Zr (Z5 (Zo nB rfl (Zg (Iz (n8)) rfl rfl (Z3 (Za (Zo yB rfl (Zo oB rfl (Zn (Iz (n8)) rfl rfl ?_))))))));obtain ⟨y11, bE, h⟩ := Z1 h;refine Zx (.int .u8 (UInt8.toNat (y11))) (A2 underlying9 rfl rfl bE) rfl (Zx (Iz (((y11).toNat : Int))) (Wa underlying5 underlying3 rfl) rfl (Gd (Iz ((w64 (aB + ((y11).toNat : Int))))) rfl rfl rfl rfl (Zg (Iz ((w64 (aB + ((y11).toNat : Int))))) rfl rfl (Zb (Th ?_)))));obtain rfl := sinj h;exact hQ _ _ ⟨g8, hfr, oB, rfl, zB, nB⟩
   ·clear hx
    obtain ⟨lE, hfr, cC, lD, nD, oD⟩ := hR;refine Za (Gd (Iz ((w64 (n8 + (1 : Int))))) oD rfl rfl rfl (Zn (Iz ((w64 (n8 + (1 : Int))))) rfl rfl ?_));exact Z3 (hk7 (n9, (w64 (n8 + (1 : Int)))) _ _ ⟨lE, hfr, cC, lD, nD, rfl⟩ h)
  ·refine Gy hc9 rfl (Tu (G5 (G5 (Tf ?_))))
   obtain rfl := sinj h;exact hQ _ _ ⟨g8, hfr, yB⟩
 ·clear hx
  obtain ⟨yE, hfr, aE⟩ := hR;refine Z5 (Zo aE rfl ?_);obtain ⟨mB, iE, h⟩ := Z1 h;refine Zx (Iz (mB)) (Gp rfl rfl (congrArg (Option.map (Value.int .i64)) iE)) rfl (Zg (Iz (mB)) rfl rfl (Z3 (Z9 ?_)));obtain rfl := sinj h;exact G0 rfl rfl (rq (Iz (mB))) ⟨_, hfr, rfl⟩
def f93 (x0 : Z2) (x1 : Z2) : Option (Bool) :=
 Option.bind (α := Bool) (
  bif (decide ((x1).Day > (x0).Day)) then
   some (true)
  else
   bif ((x1).Day == (x0).Day) then
    some ((decide ((x1).Loom > (x0).Loom)))
   else
    some (false)
  ) fun aB =>
 some (aB)
theorem en93 : Enters prog 93 := enters_of func93 (by kernel_rfl) rfl
theorem wk93 {gI : Gh} {wI : World} {x0 : Z2} {x1 : Z2} {up0 : Value} (rp0 : RV gI.m wI x0 up0) {up1 : Value} (rp1 : RV gI.m wI x1 up1) {r : Bool} (h : f93 x0 x1 = some r) : Fn prog 93 #[up0, up1] gI wI (fun _ _ v => v = .bool (r)) := by
 unfold f93 at h;refine fnE func93 rfl rfl fun g0 hm hfr => ?_;have rp0 := RVc hm rp0;have rp1 := RVc hm rp1;show E _ 24 none _ _ _ _ _;refine Z5 (Z4 rfl (T1 (g := g0) rfl rp0 fun g1 w1 p1 hs q1 => ?_));have hfr := hfr.ext hs;have rp1 := rp1.ext hs;refine Z4 rfl (T1 (g := g1) rfl rp1 fun g2 w2 p2 hs q2 => ?_);have hfr := hfr.ext hs;have q1 := q1.ext hs;refine Zg (.bool false) rfl rfl (Z3 ?_);obtain ⟨aB, hx, h⟩ := Z1 h;refine G6 (fun e w => ∃ (g : Gh) , Fr gI wI g w ∧ e 4 = .bool (aB)) (fun Q' hQ => ?_) (fun lE mE hR => ?_)
 ·replace h := hx
  clear hx;refine Za (Zx (Gc p2 0) (Zc W1 rfl (PT.ptr q2)) rfl ?_);have mB := Zm (G8).1 q2;refine Z4 rfl (Z7 (g := g2) isAgg3 sizeOf3 rfl mB fun oE nB => ?_);obtain rfl := Zj.1 nB;refine Zx (Gc p1 0) (Zc W1 rfl (PT.ptr q1)) rfl ?_;have oB := Zm (G8).1 q1;refine Z4 rfl (Z7 (g := g2) isAgg3 sizeOf3 rfl oB fun rE yB => ?_);obtain rfl := Zj.1 yB;refine Gd (.bool ((decide ((x1).Day > (x0).Day)))) rfl rfl rfl rfl (Zn (.bool ((decide ((x1).Day > (x0).Day)))) rfl rfl ?_);rcases Zt h with ⟨n8, h⟩ | ⟨n8, h⟩
  ·refine Zz rfl rfl n8 rfl rfl ?_
   iterate 5 refine Zz rfl rfl n8 rfl rfl ?_
   refine Kk 5 rfl (Zz rfl rfl n8 rfl rfl (Zx (.bool true) (Zl (b := (decide ((x1).Day > (x0).Day))) rfl (Tc n8 rfl)) rfl (Zg (.bool true) rfl rfl (Zb ?_))));obtain rfl := sinj h;exact hQ _ _ ⟨g2, hfr, rfl⟩
  ·refine Zy (Gc p2 0) (Zc W1 rfl (PT.ptr q2)) rfl rfl n8 rfl ?_
   have zB := Zm (G8).1 q2;refine Ze (.yes2 rfl rfl n8) rfl (Z7 (g := g2) isAgg3 sizeOf3 rfl zB fun vE cC => ?_);obtain rfl := Zj.1 cC;refine Zy (Gc p1 0) (Zc W1 rfl (PT.ptr q1)) rfl rfl n8 rfl ?_;have lD := Zm (G8).1 q1;refine Ze (.yes2 rfl rfl n8) rfl (Z7 (g := g2) isAgg3 sizeOf3 rfl lD fun xE nD => ?_);obtain rfl := Zj.1 nD;refine Zy (.bool (((x1).Day == (x0).Day))) (Gp rfl rfl rfl) rfl rfl n8 rfl (Zy (.bool (((x1).Day == (x0).Day))) (Zk rfl) rfl rfl n8 rfl ?_);rcases Zt h with ⟨n9, h⟩ | ⟨n9, h⟩
   ·refine Zy (Gc p2 1) (Zc Kh rfl (PT.ptr q2)) rfl rfl n9 rfl ?_
    have oD := Zm (Tg).1 q2;refine Ze (.yes2 rfl rfl n9) rfl (Z7 (g := g2) isAgg3 sizeOf3 rfl oD fun yE aE => ?_);obtain rfl := Zj.1 aE;refine Zy (Gc p1 1) (Zc Kh rfl (PT.ptr q1)) rfl rfl n9 rfl ?_;have bE := Zm (Tg).1 q1;refine Ze (.yes2 rfl rfl n9) rfl (Z7 (g := g2) isAgg3 sizeOf3 rfl bE fun zE iE => ?_);obtain rfl := Zj.1 iE;refine Zy (.bool ((decide ((x1).Loom > (x0).Loom)))) (Gp rfl rfl rfl) rfl rfl n9 rfl (Zy (.bool ((decide ((x1).Loom > (x0).Loom)))) (Zl (b := ((x1).Day == (x0).Day)) rfl (Tc n9 rfl)) rfl rfl n8 rfl (Zx (.bool ((decide ((x1).Loom > (x0).Loom)))) (Zl (b := (decide ((x1).Day > (x0).Day))) rfl (Gz n8 rfl)) rfl (Zg (.bool ((decide ((x1).Loom > (x0).Loom)))) rfl rfl (Zb ?_))));obtain rfl := sinj h;exact hQ _ _ ⟨g2, hfr, rfl⟩
   ·refine Zz rfl rfl n9 rfl rfl ?_
    iterate 4 refine Zz rfl rfl n9 rfl rfl ?_
    refine Zy (.bool false) (Zl (b := ((x1).Day == (x0).Day)) rfl (Gz n9 rfl)) rfl rfl n8 rfl (Zx (.bool false) (Zl (b := (decide ((x1).Day > (x0).Day))) rfl (Gz n8 rfl)) rfl (Zg (.bool false) rfl rfl (Zb ?_)));obtain rfl := sinj h;exact hQ _ _ ⟨g2, hfr, rfl⟩
 ·clear hx
  obtain ⟨cF, hfr, lB⟩ := hR;refine Z9 ?_;obtain rfl := sinj h;exact G0 rfl rfl (show _ = .bool (aB) from lB) ⟨_, hfr, rfl⟩
def f94 (x0 : List UInt8) : Option (UInt8 × UInt8) :=
 Option.bind (α := Int × Int) (
  lp (σ := Int × Int × Int) (fun eG (n9, aB, n8) =>
   jn (σ := Unit) (fun _ =>
    Option.bind (α := Int × Int) (
     (idx x0 n8).bind fun nD =>
     (idx x0 n8).bind fun mB =>
     some ((w64 (n9 + ((nD).toNat : Int))), (w64 (aB + (w64 ((w64 (n8 + (1 : Int))) * ((mB).toNat : Int))))))
     ) fun (nB, oB) =>
    eG (nB, oB, (w64 (n8 + (1 : Int))))
    ) fun gG =>
   bif (decide (n8 < (6 : Int))) then
    gG ()
   else
    some (n9, aB)
   ) big ((0 : Int), (0 : Int), (0 : Int))
  ) fun (cC, lD) =>
 (H3 cC (256 : Int)).bind fun yB =>
 (H3 lD (256 : Int)).bind fun y130 =>
 some ((u8w yB), (u8w y130))
theorem en94 : Enters prog 94 := enters_of func94 (by kernel_rfl) rfl
theorem wk94 {gI : Gh} {wI : World} {x0 : List UInt8} {up0 : Value} (rp0 : RV gI.m wI x0 up0) {r : UInt8 × UInt8} (h : f94 x0 = some r) : Fn prog 94 #[up0] gI wI (fun m w v => ∃ y0 y1, v = .tuple #[y0, y1] ∧ y0 = .int .u8 (UInt8.toNat (r.1)) ∧ y1 = .int .u8 (UInt8.toNat (r.2))) := by
 unfold f94 at h;refine fnE func94 rfl rfl fun g0 hm hfr => ?_;have rp0 := RVc hm rp0;show E _ 34 none _ _ _ _ _;refine Z5 (Zg (.int .u8 (UInt8.toNat 0)) rfl rfl (Zg (.int .u8 (UInt8.toNat 0)) rfl rfl (Z3 (Z5 (Zg (Iz (0)) rfl rfl (Zg (Iz (0)) rfl rfl (Z3 ?_)))))));obtain ⟨⟨cC, lD⟩, hx, h⟩ := Z1 h;refine G6 (fun e w => ∃ (g : Gh) , Fr gI wI g w ∧ e 4 = Iz (cC) ∧ e 5 = Iz (lD)) (fun Q' hQ => ?_) (fun kH mH hR => ?_)
 ·replace h := hx
  clear hx;refine Z5 (Zg (Iz (0)) rfl rfl (Z3 (Zr (Kv h (fun (s : Int × Int × Int) e w => ∃ (g : Gh) , Fr gI wI g w ∧ e 0 = up0 ∧ RV g.m w (x0 : List UInt8) up0 ∧ e 4 = Iz (s.1) ∧ e 5 = Iz (s.2.1) ∧ e 6 = Iz (s.2.2)) ⟨g0, hfr, rfl, rp0, rfl, rfl, rfl⟩ (fun X65 eG jG => ?_)))));rintro ⟨n9, aB, n8⟩ nH yH ⟨iG, hfr, rF, sF, bE, iE, lE⟩ h;refine Zq h (fun (s : Unit) e w => ∃ (g : Gh) , Fr gI wI g w ∧ e 0 = up0 ∧ RV g.m w (x0 : List UInt8) up0 ∧ e 4 = Iz (n9) ∧ e 5 = Iz (aB) ∧ e 6 = Iz (n8)) (fun X68 gG kG h => ?_) ?_
  ·refine Z5 (Zo lE rfl (Gd (.bool ((decide (n8 < (6 : Int))))) rfl rfl rfl rfl (Z3 ?_)))
   rcases Zt h with ⟨aE, h⟩ | ⟨aE, h⟩
   ·refine Gx aE rfl ?_
    exact Zu (Zd (kG () _ _ ⟨iG, hfr, rF, sF, bE, iE, lE⟩ h))
   ·refine Gy aE rfl (Tu (G5 (G5 (Tf ?_))))
    obtain ⟨rfl, rfl⟩ := Jb h;exact hQ _ _ ⟨iG, hfr, bE, iE⟩
  ·rintro _ oH zH ⟨jH, hfr, oD, lB, vF, xF, zB⟩ h
   obtain ⟨⟨nB, oB⟩, hx, h⟩ := Z1 h;refine G6 (fun e w => ∃ (g : Gh) , Fr gI wI g w ∧ e 0 = up0 ∧ RV g.m w (x0 : List UInt8) up0 ∧ e 4 = Iz (nB) ∧ e 5 = Iz (oB) ∧ e 6 = Iz (n8)) (fun Q' hQ => ?_) (fun lH pH hR => ?_)
   ·replace h := hx
    clear hx;refine Zr ?_;obtain ⟨nD, oE, h⟩ := Z1 h;have lG := Gn lB oE;refine Zs (x := .tmp 14) isAgg5 sizeOf5 lG fun qH mG yF => ?_;obtain rfl := Tz.1 mG;obtain ⟨mB, mE, h⟩ := Z1 h;have yG := Gn lB mE;refine Zs (x := .tmp 23) isAgg5 sizeOf5 yG fun sH zG aG => ?_;obtain rfl := Tz.1 zG;refine T6 (g := jH) (n := 19) [] [0, 1, 2, 3, 4, 5, 6, 7, 8, 9, 10, 11, 12, 13, 14, 15, 16, 17, 18] rfl mixed (by kernel_rfl) trivial (Z0 (Iz (n9)) rfl rfl (Zk vF) (Z0 up0 rfl rfl (Zk oD) (Z0 (Iz (n8)) rfl rfl (Zk zB) (Z0 (Gq up0 n8 1) rfl rfl (Zh (α := UInt8) underlying50 sizeOf5 rfl lB rfl oE) (Ti (c := .int .u8 (UInt8.toNat (nD))) rfl rfl .plain (fun _ _ h => h.ch) yF rfl (Z0 (Iz (((nD).toNat : Int))) rfl rfl (Wa underlying5 underlying3 rfl) (Z0 (Iz ((w64 (n9 + ((nD).toNat : Int))))) rfl rfl (Gp rfl rfl rfl) (Z0 (Iz (aB)) rfl rfl (Zk xF) (Z0 (Iz (n8)) rfl rfl (Zk zB) (Z0 (Iz ((w64 (n8 + (1 : Int))))) rfl rfl (Gp rfl rfl rfl) (Z0 up0 rfl rfl (Zk oD) (Z0 (Iz (n8)) rfl rfl (Zk zB) (Z0 (Gq up0 n8 1) rfl rfl (Zh (α := UInt8) underlying50 sizeOf5 rfl lB rfl mE) (Ti (c := .int .u8 (UInt8.toNat (mB))) rfl rfl .plain (fun _ _ h => h.ch) aG rfl (Z0 (Iz (((mB).toNat : Int))) rfl rfl (Wa underlying5 underlying3 rfl) (Z0 (Iz ((w64 ((w64 (n8 + (1 : Int))) * ((mB).toNat : Int))))) rfl rfl (Gp rfl rfl rfl) ?_))))))))))))))));refine Z0 (Iz ((w64 (aB + (w64 ((w64 (n8 + (1 : Int))) * ((mB).toNat : Int))))))) rfl rfl (Gp rfl rfl rfl) (Z0 (Iz ((w64 (n9 + ((nD).toNat : Int))))) rfl rfl (Tv rfl) (Z0 (Iz ((w64 (aB + (w64 ((w64 (n8 + (1 : Int))) * ((mB).toNat : Int))))))) rfl rfl (Tv rfl) (Jd fun cH tH hs => ?_)));have hfr := hfr.ext hs;have lB := lB.ext hs;clear hs;refine Zb (Th ?_);obtain ⟨rfl, rfl⟩ := Jb h;exact hQ _ _ ⟨cH, hfr, oD, lB, rfl, rfl, zB⟩
   ·clear hx
    obtain ⟨gH, hfr, rE, vE, xE, yE, zE⟩ := hR;refine Za (Zo zE rfl (Gd (Iz ((w64 (n8 + (1 : Int))))) rfl rfl rfl rfl (Zg (Iz ((w64 (n8 + (1 : Int))))) rfl rfl ?_)));exact Z3 (jG (nB, oB, (w64 (n8 + (1 : Int)))) _ _ ⟨gH, hfr, rE, vE, xE, yE, rfl⟩ h)
 ·clear hx
  obtain ⟨uH, hfr, cF, eF⟩ := hR;refine Z5 (Zo cF rfl ?_);obtain ⟨yB, bG, h⟩ := Z1 h;refine Zx (Iz (yB)) (Gp rfl rfl (congrArg (Option.map (Value.int .i64)) bG)) rfl (Zx (.int .u8 (UInt8.toNat ((u8w yB)))) (W3 underlying3 underlying5 rfl) rfl (Zo eF rfl ?_));obtain ⟨y130, cG, h⟩ := Z1 h;refine Zx (Iz (y130)) (Gp rfl rfl (congrArg (Option.map (Value.int .i64)) cG)) rfl (Zx (.int .u8 (UInt8.toNat ((u8w y130)))) (W3 underlying3 underlying5 rfl) rfl (Zg (.int .u8 (UInt8.toNat ((u8w yB)))) rfl rfl (Zg (.int .u8 (UInt8.toNat ((u8w y130)))) rfl rfl (Z3 (Z9 ?_)))));obtain rfl := sinj h;exact J4 rfl rfl (rq (.int .u8 (UInt8.toNat ((u8w yB))))) (rq (.int .u8 (UInt8.toNat ((u8w y130))))) ⟨_, hfr, _, _, rfl, rfl, rfl⟩
def f108 (x0 : List Gs) (x1 : Gs → Option Str) : Option ((List Str)) :=
 Option.bind (α := (List Str)) (
  lp (σ := (List Str) × Int) (fun yF (oB, n9) =>
   bif (decide (n9 < ((x0).length : Int))) then
    Option.bind (α := (List Str)) (
     (idx x0 n9).bind fun aG =>
     (x1 aG).bind fun cC =>
     (apnd 16 oB (([cC] : List Str))).bind fun bG =>
     some (bG)
     ) fun mB =>
    yF (mB, (w64 (n9 + (1 : Int))))
   else
    some (oB)
   ) big ([], (0 : Int))
  ) fun nB =>
 some (nB)
theorem en108 : Enters prog 108 := enters_of func108 (by kernel_rfl) rfl
theorem wk108 {gI : Gh} {wI : World} {x0 : List Gs} {x1 : Gs → Option Str} {up0 : Value} (rp0 : RV gI.m wI x0 up0) {up1 : Value} (rp1 : H9 prog x1 up1 gI wI) {r : (List Str)} (h : f108 x0 x1 = some r) : Fn prog 108 #[up0, up1] gI wI (fun m w v => RV m w (r) v) := by
 unfold f108 at h;refine fnE func108 rfl rfl fun g0 hm hfr => ?_;have rp0 := RVc hm rp0;obtain ⟨ff1, fa1, fc1, rfl, fen1, fcl1⟩ := rp1;show E _ 21 none _ _ _ _ _;refine Z5 (Zg (.slice none 0 0) rfl rfl (Z3 ?_));obtain ⟨nB, hx, h⟩ := Z1 h;refine G6 (fun e w => ∃ (g : Gh) (v4 : Value), Fr gI wI g w ∧ e 4 = v4 ∧ RV g.m w (nB : List Str) v4 ∧ OS 1004 g w 9 (nB : List Str) v4) (fun Q' hQ => ?_) (fun sH yH hR => ?_)
 ·replace h := hx
  clear hx;refine Z5 (Zn up0 rfl rfl (Zx (Iz ((x0).length : Int)) (G3 underlying36 rfl rp0) rfl (Zn (Iz (0)) rfl rfl (Z3 (Zr (Kv h (fun (s : (List Str) × Int) e w => ∃ (g : Gh) (v4 : Value), Fr gI wI g w ∧ e 1 = (.func (.func ff1) fa1 fc1) ∧ e 4 = v4 ∧ RV g.m w (s.1 : List Str) v4 ∧ OS 1004 g w 9 (s.1 : List Str) v4 ∧ e 7 = up0 ∧ RV g.m w (x0 : List Gs) up0 ∧ e 8 = Iz (((x0).length : Int)) ∧ e 9 = Iz (s.2)) ⟨g0, (.slice none 0 0), hfr, rfl, rfl, Tp, OS.nil, rfl, rp0, rfl, rfl⟩ (fun X27 yF iG => ?_)))))));rintro ⟨oB, n9⟩ tH zH ⟨iE, oE, hfr, lD, nD, aB, lB, oD, n8, aE, yB⟩ h;refine Z5 (Gd (.bool ((decide (n9 < ((x0).length : Int))))) yB aE rfl rfl (Z3 (Zf ?_)));rcases Zt h with ⟨zB, h⟩ | ⟨zB, h⟩
  ·refine Gx zB rfl (Zu (Zd ?_))
   obtain ⟨mB, hx, h⟩ := Z1 h;refine G6 (fun e w => ∃ (g : Gh) (v4 : Value), Fr gI wI g w ∧ e 1 = (.func (.func ff1) fa1 fc1) ∧ e 4 = v4 ∧ RV g.m w (mB : List Str) v4 ∧ OS 1004 g w 9 (mB : List Str) v4 ∧ e 7 = up0 ∧ RV g.m w (x0 : List Gs) up0 ∧ e 8 = Iz (((x0).length : Int)) ∧ e 9 = Iz (n9)) (fun Q' hQ => ?_) (fun uH aI hR => ?_)
   ·replace h := hx
    clear hx;refine Zr (Z5 ?_);obtain ⟨aG, lE, h⟩ := Z1 h;refine Zx (Gq up0 n9 3) (Zh (α := Gs) underlying36 sizeOf108 oD n8 yB lE) rfl ?_;have lG := Gn n8 lE;refine Z4 rfl (Z7 (g := iE) isAgg108 sizeOf108 rfl lG fun mG mE => (Z4 rfl (Td (g := iE) 2006 (⟨⟨[]⟩, ⟨0, []⟩⟩ : Gs) zeroValue108 (fun m w => ⟨_, (Gk Db (Gk Zw Q0)), rfl⟩) fun cG yG zG hs b44 cb => ?_)));have hfr := hfr.stp hs;have aB := aB.stp hs;have lB := lB.stp hs rfl;have n8 := n8.stp hs;have mE := mE.stp hs;have pH : OSF 2006 60602 2 cG yG 3 108 ([] : List Int) zG := cb.osf (by rfl);clear cb;refine Z4 rfl (Gv (g := cG) (v := mG) sizeOf108 rfl b44 rfl mE fun eG bI hs b45 cb => ?_);clear cb;have hfr := hfr.stp hs;have aB := aB.stp hs;have lB := lB.stp hs rfl;have n8 := n8.stp hs;refine Z3 (Za (Zo nD rfl (Zo lD rfl (Z4 rfl (T8 (g := eG) isAgg108 sizeOf108 rfl b45 fun cH gH => ?_)))));obtain ⟨cC, jG, h⟩ := Z1 h;refine Z4 rfl (J0 (g := eG) (vs := [cH]) rfl fen1 (.cons rfl .nil) (fcl1 _ _ hfr.ch _ _ _  gH jG) fun jH dI iI hs hr => ?_);have hfr := hfr.ext hs;have aB := aB.ext hs;have lB := lB.ext hs;have n8 := n8.ext hs;obtain rfl := Ts.1 hr;refine Z4 rfl (Ga (g := jH) 3017 (xs := ([cC] : List Str)) (vs := [Str.v (cC)]) underlying104 sizeOf9 zeroValue9 rfl rfl (.cons rfl .nil) (RVs.cons (Ts.2 rfl) RVs.nil) rfl rfl fun kH jI kI hs o49 lH hxt hfl => ?_);have hfr := hfr.stp hs;have aB := aB.stp hs;have lB := lB.stp hs rfl;have n8 := n8.stp hs;obtain ⟨bG, kG, h⟩ := Z1 h;refine Z4 rfl (Qd (g := kH) (i := 1004) underlying104 D8 rfl rfl lB aB rfl lH kG fun mH lI gG hs o50 nH _ => ?_);have hfr := hfr.stp hs;have n8 := n8.stp hs;refine Zg gG rfl rfl (Zb (Th ?_));obtain rfl := sinj h;exact hQ _ _ ⟨mH, (gG), hfr, lD, rfl, nH, o50, oD, n8, aE, yB⟩
   ·clear hx
    obtain ⟨oH, rE, hfr, vE, xE, yE, zE, cF, eF, rF, sF⟩ := hR;refine Za (Gd (Iz ((w64 (n9 + (1 : Int))))) sF rfl rfl rfl (Zn (Iz ((w64 (n9 + (1 : Int))))) rfl rfl ?_));exact Z3 (iG (mB, (w64 (n9 + (1 : Int)))) _ _ ⟨oH, (rE), hfr, vE, xE, yE, zE, cF, eF, rF, rfl⟩ h)
  ·refine Gy zB rfl (Tu (G5 (G5 (Tf ?_))))
   obtain rfl := sinj h;exact hQ _ _ ⟨iE, (oE), hfr, nD, aB, lB⟩
 ·clear hx
  obtain ⟨mI, bE, hfr, vF, xF, qH⟩ := hR;refine Z5 (Zo vF rfl (Zg bE rfl rfl (Z3 (Z9 ?_))));obtain rfl := sinj h;exact G0 rfl rfl (rq bE) ⟨_, hfr, xF⟩
def f109 (x0 : Gs) : Option (Str) :=
 some ((x0).Name)
theorem en109 : Enters prog 109 := enters_of func109 (by kernel_rfl) rfl
theorem wk109 {gI : Gh} {wI : World} {x0 : Gs} {up0 : Value} (rp0 : RV gI.m wI x0 up0) {r : Str} (h : f109 x0 = some r) : Fn prog 109 #[up0] gI wI (fun _ _ v => v = Str.v (r)) := by
 unfold f109 at h;refine fnE func109 rfl rfl fun g0 hm hfr => ?_;have rp0 := RVc hm rp0;show E _ 5 none _ _ _ _ _;refine Z5 (Z4 rfl (T1 (g := g0) rfl rp0 fun g1 w1 p1 hs q1 => ?_));have hfr := hfr.ext hs;refine Zg (Str.v (⟨[]⟩ : Str)) rfl rfl (Z3 (Z5 (Zx (Gc p1 0) (Zc Hu rfl (PT.ptr q1)) rfl ?_)));have q2 := Zm (K0).1 q1;refine Z4 rfl (Z7 (g := g1) isAgg9 sizeOf9 rfl q2 fun v3 r3 => ?_);obtain rfl := Ts.1 r3;refine Zg (Str.v ((x0).Name)) rfl rfl (Z3 (Z9 ?_));obtain rfl := sinj h;exact G0 rfl rfl (rq (Str.v ((x0).Name))) ⟨_, hfr, rfl⟩
def f110 (x0 : List Gi) (x1 : Gi → Option Str) : Option ((List Str)) :=
 Option.bind (α := (List Str)) (
  lp (σ := (List Str) × Int) (fun yF (oB, n9) =>
   bif (decide (n9 < ((x0).length : Int))) then
    Option.bind (α := (List Str)) (
     (idx x0 n9).bind fun aG =>
     (x1 aG).bind fun cC =>
     (apnd 16 oB (([cC] : List Str))).bind fun bG =>
     some (bG)
     ) fun mB =>
    yF (mB, (w64 (n9 + (1 : Int))))
   else
    some (oB)
   ) big ([], (0 : Int))
  ) fun nB =>
 some (nB)
theorem en110 : Enters prog 110 := enters_of func110 (by kernel_rfl) rfl
theorem wk110 {gI : Gh} {wI : World} {x0 : List Gi} {x1 : Gi → Option Str} {up0 : Value} (rp0 : RV gI.m wI x0 up0) {up1 : Value} (rp1 : H9 prog x1 up1 gI wI) {r : (List Str)} (h : f110 x0 x1 = some r) : Fn prog 110 #[up0, up1] gI wI (fun m w v => RV m w (r) v) := by
 unfold f110 at h;refine fnE func110 rfl rfl fun g0 hm hfr => ?_;have rp0 := RVc hm rp0;obtain ⟨ff1, fa1, fc1, rfl, fen1, fcl1⟩ := rp1;show E _ 21 none _ _ _ _ _;refine Z5 (Zg (.slice none 0 0) rfl rfl (Z3 ?_));obtain ⟨nB, hx, h⟩ := Z1 h;refine G6 (fun e w => ∃ (g : Gh) (v4 : Value), Fr gI wI g w ∧ e 4 = v4 ∧ RV g.m w (nB : List Str) v4 ∧ OS 1004 g w 9 (nB : List Str) v4) (fun Q' hQ => ?_) (fun sH yH hR => ?_)
 ·replace h := hx
  clear hx;refine Z5 (Zn up0 rfl rfl (Zx (Iz ((x0).length : Int)) (G3 underlying37 rfl rp0) rfl (Zn (Iz (0)) rfl rfl (Z3 (Zr (Kv h (fun (s : (List Str) × Int) e w => ∃ (g : Gh) (v4 : Value), Fr gI wI g w ∧ e 1 = (.func (.func ff1) fa1 fc1) ∧ e 4 = v4 ∧ RV g.m w (s.1 : List Str) v4 ∧ OS 1004 g w 9 (s.1 : List Str) v4 ∧ e 7 = up0 ∧ RV g.m w (x0 : List Gi) up0 ∧ e 8 = Iz (((x0).length : Int)) ∧ e 9 = Iz (s.2)) ⟨g0, (.slice none 0 0), hfr, rfl, rfl, Tp, OS.nil, rfl, rp0, rfl, rfl⟩ (fun X27 yF iG => ?_)))))));rintro ⟨oB, n9⟩ tH zH ⟨iE, oE, hfr, lD, nD, aB, lB, oD, n8, aE, yB⟩ h;refine Z5 (Gd (.bool ((decide (n9 < ((x0).length : Int))))) yB aE rfl rfl (Z3 (Zf ?_)));rcases Zt h with ⟨zB, h⟩ | ⟨zB, h⟩
  ·refine Gx zB rfl (Zu (Zd ?_))
   obtain ⟨mB, hx, h⟩ := Z1 h;refine G6 (fun e w => ∃ (g : Gh) (v4 : Value), Fr gI wI g w ∧ e 1 = (.func (.func ff1) fa1 fc1) ∧ e 4 = v4 ∧ RV g.m w (mB : List Str) v4 ∧ OS 1004 g w 9 (mB : List Str) v4 ∧ e 7 = up0 ∧ RV g.m w (x0 : List Gi) up0 ∧ e 8 = Iz (((x0).length : Int)) ∧ e 9 = Iz (n9)) (fun Q' hQ => ?_) (fun uH aI hR => ?_)
   ·replace h := hx
    clear hx;refine Zr (Z5 ?_);obtain ⟨aG, lE, h⟩ := Z1 h;refine Zx (Gq up0 n9 3) (Zh (α := Gi) underlying37 sizeOf94 oD n8 yB lE) rfl ?_;have lG := Gn n8 lE;refine Z4 rfl (Z7 (g := iE) isAgg94 sizeOf94 rfl lG fun mG mE => (Z4 rfl (Td (g := iE) 2006 (⟨⟨[]⟩, ⟨0, []⟩⟩ : Gi) zeroValue94 (fun m w => ⟨_, (Gk Db (Gk Zw Q0)), rfl⟩) fun cG yG zG hs b44 cb => ?_)));have hfr := hfr.stp hs;have aB := aB.stp hs;have lB := lB.stp hs rfl;have n8 := n8.stp hs;have mE := mE.stp hs;have pH : OSF 2006 60602 2 cG yG 96 94 ([] : List Gb) zG := cb.osf (by rfl);clear cb;refine Z4 rfl (Gv (g := cG) (v := mG) sizeOf94 rfl b44 rfl mE fun eG bI hs b45 cb => ?_);clear cb;have hfr := hfr.stp hs;have aB := aB.stp hs;have lB := lB.stp hs rfl;have n8 := n8.stp hs;refine Z3 (Za (Zo nD rfl (Zo lD rfl (Z4 rfl (T8 (g := eG) isAgg94 sizeOf94 rfl b45 fun cH gH => ?_)))));obtain ⟨cC, jG, h⟩ := Z1 h;refine Z4 rfl (J0 (g := eG) (vs := [cH]) rfl fen1 (.cons rfl .nil) (fcl1 _ _ hfr.ch _ _ _  gH jG) fun jH dI iI hs hr => ?_);have hfr := hfr.ext hs;have aB := aB.ext hs;have lB := lB.ext hs;have n8 := n8.ext hs;obtain rfl := Ts.1 hr;refine Z4 rfl (Ga (g := jH) 3017 (xs := ([cC] : List Str)) (vs := [Str.v (cC)]) underlying104 sizeOf9 zeroValue9 rfl rfl (.cons rfl .nil) (RVs.cons (Ts.2 rfl) RVs.nil) rfl rfl fun kH jI kI hs o49 lH hxt hfl => ?_);have hfr := hfr.stp hs;have aB := aB.stp hs;have lB := lB.stp hs rfl;have n8 := n8.stp hs;obtain ⟨bG, kG, h⟩ := Z1 h;refine Z4 rfl (Qd (g := kH) (i := 1004) underlying104 D8 rfl rfl lB aB rfl lH kG fun mH lI gG hs o50 nH _ => ?_);have hfr := hfr.stp hs;have n8 := n8.stp hs;refine Zg gG rfl rfl (Zb (Th ?_));obtain rfl := sinj h;exact hQ _ _ ⟨mH, (gG), hfr, lD, rfl, nH, o50, oD, n8, aE, yB⟩
   ·clear hx
    obtain ⟨oH, rE, hfr, vE, xE, yE, zE, cF, eF, rF, sF⟩ := hR;refine Za (Gd (Iz ((w64 (n9 + (1 : Int))))) sF rfl rfl rfl (Zn (Iz ((w64 (n9 + (1 : Int))))) rfl rfl ?_));exact Z3 (iG (mB, (w64 (n9 + (1 : Int)))) _ _ ⟨oH, (rE), hfr, vE, xE, yE, zE, cF, eF, rF, rfl⟩ h)
  ·refine Gy zB rfl (Tu (G5 (G5 (Tf ?_))))
   obtain rfl := sinj h;exact hQ _ _ ⟨iE, (oE), hfr, nD, aB, lB⟩
 ·clear hx
  obtain ⟨mI, bE, hfr, vF, xF, qH⟩ := hR;refine Z5 (Zo vF rfl (Zg bE rfl rfl (Z3 (Z9 ?_))));obtain rfl := sinj h;exact G0 rfl rfl (rq bE) ⟨_, hfr, xF⟩
def f111 (x0 : Gi) : Option (Str) :=
 some ((x0).Name)
theorem en111 : Enters prog 111 := enters_of func111 (by kernel_rfl) rfl
theorem wk111 {gI : Gh} {wI : World} {x0 : Gi} {up0 : Value} (rp0 : RV gI.m wI x0 up0) {r : Str} (h : f111 x0 = some r) : Fn prog 111 #[up0] gI wI (fun _ _ v => v = Str.v (r)) := by
 unfold f111 at h;refine fnE func111 rfl rfl fun g0 hm hfr => ?_;have rp0 := RVc hm rp0;show E _ 5 none _ _ _ _ _;refine Z5 (Z4 rfl (T1 (g := g0) rfl rp0 fun g1 w1 p1 hs q1 => ?_));have hfr := hfr.ext hs;refine Zg (Str.v (⟨[]⟩ : Str)) rfl rfl (Z3 (Z5 (Zx (Gc p1 0) (Zc Yl rfl (PT.ptr q1)) rfl ?_)));have q2 := Zm (K5).1 q1;refine Z4 rfl (Z7 (g := g1) isAgg9 sizeOf9 rfl q2 fun v3 r3 => ?_);obtain rfl := Ts.1 r3;refine Zg (Str.v ((x0).Name)) rfl rfl (Z3 (Z9 ?_));obtain rfl := sinj h;exact G0 rfl rfl (rq (Str.v ((x0).Name))) ⟨_, hfr, rfl⟩
def f117 (x0 : List Gb) (x1 : List Gb) : Option (Bool) :=
 jn (σ := Unit) (fun _ =>
  jn (σ := Unit) (fun _ =>
   some (true)
   ) fun k53 =>
  lp (σ := Int) (fun k54 n8 =>
   jn (σ := Unit) (fun _ =>
    jn (σ := Unit) (fun _ =>
     k54 ((w64 (n8 + (1 : Int))))
     ) fun yE =>
    (idx x0 n8).bind fun nD =>
    (idx x1 n8).bind fun oD =>
    bif (!(decide (nD = oD))) then
     some (false)
    else
     yE ()
    ) fun k57 =>
   bif (decide (n8 < ((x0).length : Int))) then
    k57 ()
   else
    k53 ()
   ) big ((0 : Int))
  ) fun k2 =>
 bif (((x0).length : Int) != ((x1).length : Int)) then
  some (false)
 else
  k2 ()
theorem en117 : Enters prog 117 := enters_of func117 (by kernel_rfl) rfl
theorem wk117 {gI : Gh} {wI : World} {x0 : List Gb} {x1 : List Gb} {up0 : Value} (rp0 : RV gI.m wI x0 up0) {up1 : Value} (rp1 : RV gI.m wI x1 up1) {r : Bool} (h : f117 x0 x1 = some r) : Fn prog 117 #[up0, up1] gI wI (fun _ _ v => v = .bool (r)) := by
 unfold f117 at h;refine fnE func117 rfl rfl fun g0 hm hfr => ?_;have rp0 := RVc hm rp0;have rp1 := RVc hm rp1;show E _ 26 none _ _ _ _ _;refine Z5 (Zg (.bool false) rfl rfl (Z3 (Zq h (fun (s : Unit) e w => ∃ (g : Gh) , Fr gI wI g w ∧ e 0 = up0 ∧ RV g.m w (x0 : List Gb) up0 ∧ e 1 = up1 ∧ RV g.m w (x1 : List Gb) up1) (fun X2 k2 hk2 h => ?_) ?_)))
 ·refine Z5 (Zn up0 rfl rfl (Zx (Iz ((x0).length : Int)) (G3 underlying90 rfl rp0) rfl (Zn up1 rfl rfl (Zx (Iz ((x1).length : Int)) (G3 underlying90 rfl rp1) rfl (Gd (.bool ((((x0).length : Int) != ((x1).length : Int)))) rfl rfl rfl rfl (Z3 ?_))))))
  rcases Zt h with ⟨hc3, h⟩ | ⟨hc3, h⟩
  ·refine Gx hc3 rfl (Z5 (Zg (.bool false) rfl rfl (Z3 (Z9 (Gf ?_)))))
   obtain rfl := sinj h;exact G0 rfl rfl (rq (.bool false)) ⟨_, hfr, rfl⟩
  ·refine Gy hc3 rfl ?_
   exact Zu (Zd (hk2 () _ _ ⟨g0, hfr, rfl, rp0, rfl, rp1⟩ h))
 ·rintro _ oH w4 ⟨g4, hfr, cF, eF, rF, sF⟩ h
  refine Zq h (fun (s : Unit) e w => ∃ (g : Gh) , Fr gI wI g w) (fun X53 k53 vF h => ?_) ?_
  ·refine Z5 (Zg (Iz (0)) rfl rfl (Z3 (Zr (Kv h (fun (s : Int) e w => ∃ (g : Gh) , Fr gI wI g w ∧ e 0 = up0 ∧ RV g.m w (x0 : List Gb) up0 ∧ e 1 = up1 ∧ RV g.m w (x1 : List Gb) up1 ∧ e 5 = Iz (s)) ⟨g4, hfr, cF, eF, rF, sF, rfl⟩ (fun X54 k54 xF => ?_)))))
   rintro n8 jH pH ⟨zE, hfr, oB, yB, vE, xE, zB⟩ h;refine Zq h (fun (s : Unit) e w => ∃ (g : Gh) , Fr gI wI g w ∧ e 0 = up0 ∧ RV g.m w (x0 : List Gb) up0 ∧ e 1 = up1 ∧ RV g.m w (x1 : List Gb) up1 ∧ e 5 = Iz (n8)) (fun X57 k57 yF h => ?_) ?_
   ·refine Z5 (Zo zB rfl (Zo oB rfl (Zx (Iz ((x0).length : Int)) (G3 underlying90 rfl yB) rfl (Gd (.bool ((decide (n8 < ((x0).length : Int))))) rfl rfl rfl rfl (Z3 ?_)))))
    rcases Zt h with ⟨nB, h⟩ | ⟨nB, h⟩
    ·refine Gx nB rfl ?_
     exact Zu (Zd (yF () _ _ ⟨zE, hfr, oB, yB, vE, xE, zB⟩ h))
    ·refine Gy nB rfl (Tu (G5 (G5 (Tf ?_))))
     exact Zd (vF () _ _ ⟨zE, hfr⟩ h)
   ·rintro _ kH qH ⟨gG, hfr, cC, n9, lD, aB, lB⟩ h
    refine Zq h (fun (s : Unit) e w => ∃ (g : Gh) , Fr gI wI g w ∧ e 0 = up0 ∧ RV g.m w (x0 : List Gb) up0 ∧ e 1 = up1 ∧ RV g.m w (x1 : List Gb) up1 ∧ e 5 = Iz (n8)) (fun X81 yE aG h => ?_) ?_
    ·refine Zr (Zf ?_)
     obtain ⟨nD, aE, h⟩ := Z1 h;have iG := Gn n9 aE;refine Zs (x := .tmp 19) isAgg96 sizeOf96 iG fun jG kG bG => ?_;obtain ⟨oD, bE, h⟩ := Z1 h;have lG := Gn aB bE;refine Zs (x := .tmp 23) isAgg96 sizeOf96 lG fun mG yG cG => (T6 (g := gG) (n := 9) [] [0, 1, 2, 3, 4, 5, 6, 7, 8] rfl mixed (by kernel_rfl) trivial (Z0 up0 rfl rfl (Zk cC) (Z0 (Iz (n8)) rfl rfl (Zk lB) (Z0 (Gq up0 n8 3) rfl rfl (Zh (α := Gb) underlying90 sizeOf96 rfl n9 rfl aE) (Ti (c := jG) rfl rfl .plain (fun _ _ h => h.ch) bG rfl (Z0 up1 rfl rfl (Zk lD) (Z0 (Iz (n8)) rfl rfl (Zk lB) (Z0 (Gq up1 n8 3) rfl rfl (Zh (α := Gb) underlying90 sizeOf96 rfl aB rfl bE) (Ti (c := mG) rfl rfl .plain (fun _ _ h => h.ch) cG rfl (Z0 (.bool ((!(decide (nD = oD))))) rfl rfl (M4 seq_96 rfl eg_96 rfl rfl kG yG) (Jd fun zG sH hs => ?_)))))))))));have hfr := hfr.ext hs;have n9 := n9.ext hs;have aB := aB.ext hs;clear hs;refine Z3 ?_;rcases Zt h with ⟨mB, h⟩ | ⟨mB, h⟩
     ·refine Gx mB rfl (Z5 (Zg (.bool false) rfl rfl (Z3 (Z9 (G2 (Gf (Gf (G2 (Gf ?_)))))))))
      obtain rfl := sinj h;exact G0 rfl rfl (rq (.bool false)) ⟨_, hfr, rfl⟩
     ·refine Gy mB rfl ?_
      exact Zu (Th (Zd (aG () _ _ ⟨zG, hfr, cC, n9, lD, aB, lB⟩ h)))
    ·rintro _ cH lH ⟨eG, hfr, iE, lE, mE, oE, rE⟩ h
     refine Za (Zo rE rfl (Gd (Iz ((w64 (n8 + (1 : Int))))) rfl rfl rfl rfl (Zg (Iz ((w64 (n8 + (1 : Int))))) rfl rfl ?_)));exact Z3 (xF ((w64 (n8 + (1 : Int)))) _ _ ⟨eG, hfr, iE, lE, mE, oE, rfl⟩ h)
  ·rintro _ gH mH ⟨nH, hfr⟩ h
   refine Z5 (Zg (.bool true) rfl rfl (Z3 (Z9 ?_)));obtain rfl := sinj h;exact G0 rfl rfl (rq (.bool true)) ⟨_, hfr, rfl⟩
def f129 (x0 : List Int) : Option (Int) :=
 jn (σ := Unit) (fun _ =>
  some ((0 : Int))
  ) fun k14 =>
 lp (σ := Int) (fun k15 n8 =>
  bif (decide (n8 < ((x0).length : Int))) then
   jn (σ := Unit) (fun _ =>
    k15 ((w64 (n8 + (1 : Int))))
    ) fun lE =>
   (idx x0 n8).bind fun y23 =>
   bif (y23 != (0 : Int)) then
    some (y23)
   else
    lE ()
  else
   k14 ()
  ) big ((0 : Int))
theorem en129 : Enters prog 129 := enters_of func129 (by kernel_rfl) rfl
theorem wk129 {gI : Gh} {wI : World} {x0 : List Int} {up0 : Value} (rp0 : RV gI.m wI x0 up0) {r : Int} (h : f129 x0 = some r) : Fn prog 129 #[up0] gI wI (fun _ _ v => v = Iz (r)) := by
 unfold f129 at h;refine fnE func129 rfl rfl fun g0 hm hfr => ?_;have rp0 := RVc hm rp0;show E _ 18 none _ _ _ _ _;refine Z5 (Zg (Iz (0)) rfl rfl (Z3 (Z5 (Zg (Iz (0)) rfl rfl (Z3 (Zq h (fun (s : Unit) e w => ∃ (g : Gh) , Fr gI wI g w ∧ e 3 = Iz ((0 : Int))) (fun X14 k14 mE h => ?_) ?_))))))
 ·refine Z5 (Zn up0 rfl rfl (Zx (Iz ((x0).length : Int)) (G3 underlying22 rfl rp0) rfl (Zn (Iz (0)) rfl rfl (Z3 (Zr (Kv h (fun (s : Int) e w => ∃ (g : Gh) , Fr gI wI g w ∧ e 3 = Iz ((0 : Int)) ∧ e 6 = up0 ∧ RV g.m w (x0 : List Int) up0 ∧ e 7 = Iz (((x0).length : Int)) ∧ e 8 = Iz (s)) ⟨g0, hfr, rfl, rfl, rp0, rfl, rfl⟩ (fun X15 k15 oE => ?_)))))))
  rintro n8 zE rF ⟨zB, hfr, n9, oB, aB, yB, lB⟩ h;refine Z5 (Gd (.bool ((decide (n8 < ((x0).length : Int))))) lB yB rfl rfl (Z3 (Zf ?_)));rcases Zt h with ⟨mB, h⟩ | ⟨mB, h⟩
  ·refine Gx mB rfl (Zu (Zd (Zq h (fun (s : Unit) e w => ∃ (g : Gh) , Fr gI wI g w ∧ e 3 = Iz ((0 : Int)) ∧ e 6 = up0 ∧ RV g.m w (x0 : List Int) up0 ∧ e 7 = Iz (((x0).length : Int)) ∧ e 8 = Iz (n8)) (fun X22 lE rE h => ?_) ?_)))
   ·refine Zr (Z5 ?_)
    obtain ⟨y23, cC, h⟩ := Z1 h;refine Zx (Gq up0 n8 1) (Zh (α := Int) underlying22 sizeOf3 oB aB lB cC) rfl ?_;have vE := Gn aB cC;refine Z4 rfl (Z7 (g := zB) isAgg3 sizeOf3 rfl vE fun sF xE => ?_);obtain rfl := Zj.1 xE;refine Zg (Iz (y23)) rfl rfl (Z3 (Z5 (Zn (Iz (y23)) rfl rfl (Zo n9 rfl (Gd (.bool ((y23 != (0 : Int)))) rfl rfl rfl rfl (Z3 ?_))))));rcases Zt h with ⟨nB, h⟩ | ⟨nB, h⟩
    ·refine Gx nB rfl (Z5 (Zn (Iz (y23)) rfl rfl (Zg (Iz (y23)) rfl rfl (Z3 (Z9 (G2 (Gf (Gf (G2 (Gf ?_))))))))))
     obtain rfl := sinj h;exact G0 rfl rfl (rq (Iz (y23))) ⟨_, hfr, rfl⟩
    ·refine Gy nB rfl ?_
     exact Zu (Th (Zd (rE () _ _ ⟨zB, hfr, n9, oB, aB, yB, lB⟩ h)))
   ·rintro _ cF vF ⟨yE, hfr, lD, nD, oD, aE, bE⟩ h
    refine Za (Gd (Iz ((w64 (n8 + (1 : Int))))) bE rfl rfl rfl (Zn (Iz ((w64 (n8 + (1 : Int))))) rfl rfl ?_));exact Z3 (oE ((w64 (n8 + (1 : Int)))) _ _ ⟨yE, hfr, lD, nD, oD, aE, rfl⟩ h)
  ·refine Gy mB rfl (Tu (G5 (G5 (Tf ?_))))
   exact Zd (mE () _ _ ⟨zB, hfr, n9⟩ h)
 ·rintro _ eF xF ⟨yF, hfr, iE⟩ h
  refine Z5 (Zo iE rfl (Zg (Iz ((0 : Int))) rfl rfl (Z3 (Z9 ?_))));obtain rfl := sinj h;exact G0 rfl rfl (rq (Iz ((0 : Int)))) ⟨_, hfr, rfl⟩
def f131 (x0 : Vector UInt8 8) : Option (UInt8 × UInt8) :=
 Option.bind (α := UInt8 × UInt8) (
  (cut ((x0).toList) 0 (6 : Int)).bind fun aB =>
  lp (σ := UInt8 × UInt8 × Int) (fun sF (lB, mB, n8) =>
   bif (decide (n8 < ((aB).length : Int))) then
    Option.bind (α := UInt8 × UInt8) (
     (idx aB n8).bind fun n9 =>
     some ((lB + n9), (mB + ((u8w ((w64 (n8 + (1 : Int))))) * n9)))
     ) fun (yB, zB) =>
    sF (yB, zB, (w64 (n8 + (1 : Int))))
   else
    some (lB, mB)
   ) big ((0 : UInt8), (0 : UInt8), (0 : Int))
  ) fun (nB, oB) =>
 some (nB, oB)
theorem en131 : Enters prog 131 := enters_of func131 (by kernel_rfl) rfl
theorem wk131 {gI : Gh} {wI : World} {x0 : Vector UInt8 8} {up0 : Value} (rp0 : RV gI.m wI x0 up0) {r : UInt8 × UInt8} (h : f131 x0 = some r) : Fn prog 131 #[up0] gI wI (fun m w v => ∃ y0 y1, v = .tuple #[y0, y1] ∧ y0 = .int .u8 (UInt8.toNat (r.1)) ∧ y1 = .int .u8 (UInt8.toNat (r.2))) := by
 unfold f131 at h;refine fnE func131 rfl rfl fun g0 hm hfr => ?_;have rp0 := RVc hm rp0;show E _ 26 none _ _ _ _ _;refine Z5 (Z4 rfl (T1 (g := g0) rfl rp0 fun g1 w1 p1 hs q1 => ?_));have hfr := hfr.ext hs;refine Zg (.int .u8 (UInt8.toNat 0)) rfl rfl (Zg (.int .u8 (UInt8.toNat 0)) rfl rfl (Z3 ?_));obtain ⟨⟨nB, oB⟩, hx, h⟩ := Z1 h;refine G6 (fun e w => ∃ (g : Gh) , Fr gI wI g w ∧ e 2 = .int .u8 (UInt8.toNat (nB)) ∧ e 3 = .int .u8 (UInt8.toNat (oB))) (fun Q' hQ => ?_) (fun cG iG hR => ?_)
 ·replace h := hx
  clear hx;refine Z5 ?_;obtain ⟨aB, lE, h⟩ := Z1 h;have vF := U7 (Mb (p := p1) q1) lE;refine Zx ((Kf (D6 p1 8) 0 (Int.toNat (6 : Int)) 1)) (D0 (p := p1) underlying155 sizeOf5 rfl q1 rfl lE) rfl (Zx (Iz ((aB).length : Int)) (G3 underlying50 rfl vF) rfl (Zn (Iz (0)) rfl rfl (Z3 (Zr (Kv h (fun (s : UInt8 × UInt8 × Int) e w => ∃ (g : Gh) , Fr gI wI g w ∧ e 2 = .int .u8 (UInt8.toNat (s.1)) ∧ e 3 = .int .u8 (UInt8.toNat (s.2.1)) ∧ e 6 = (Kf (D6 p1 8) 0 (Int.toNat (6 : Int)) 1) ∧ RV g.m w (aB : List UInt8) (Kf (D6 p1 8) 0 (Int.toNat (6 : Int)) 1) ∧ e 7 = Iz (((aB).length : Int)) ∧ e 8 = Iz (s.2.2)) ⟨g1, hfr, rfl, rfl, rfl, vF, rfl, rfl⟩ (fun X16 sF xF => ?_))))));rintro ⟨lB, mB, n8⟩ eG jG ⟨mE, hfr, oD, aE, bE, lD, iE, cC⟩ h;refine Z5 (Gd (.bool ((decide (n8 < ((aB).length : Int))))) cC iE rfl rfl (Z3 (Zf ?_)));rcases Zt h with ⟨nD, h⟩ | ⟨nD, h⟩
  ·refine Gx nD rfl (Zu (Zd ?_))
   obtain ⟨⟨yB, zB⟩, hx, h⟩ := Z1 h;refine G6 (fun e w => ∃ (g : Gh) , Fr gI wI g w ∧ e 2 = .int .u8 (UInt8.toNat (yB)) ∧ e 3 = .int .u8 (UInt8.toNat (zB)) ∧ e 6 = (Kf (D6 p1 8) 0 (Int.toNat (6 : Int)) 1) ∧ RV g.m w (aB : List UInt8) (Kf (D6 p1 8) 0 (Int.toNat (6 : Int)) 1) ∧ e 7 = Iz (((aB).length : Int)) ∧ e 8 = Iz (n8)) (fun Q' hQ => ?_) (fun gG kG hR => ?_)
   ·replace h := hx
    clear hx;refine Zr (Z5 (Zo cC rfl ?_));obtain ⟨n9, oE, h⟩ := Z1 h;refine Zx (Gq ((Kf (D6 p1 8) 0 (Int.toNat (6 : Int)) 1)) n8 1) (Zh (α := UInt8) underlying50 sizeOf5 bE lD cC oE) rfl ?_;have yF := Gn lD oE;refine Z4 rfl (Z7 (g := mE) isAgg5 sizeOf5 rfl yF fun lG aG => ?_);obtain rfl := Tz.1 aG;refine Zg (Iz (n8)) rfl rfl (Zg (.int .u8 (UInt8.toNat (n9))) rfl rfl (Z3 (Z5 (Zo oD rfl (Zn (.int .u8 (UInt8.toNat (n9))) rfl rfl (Zx (.int .u8 (UInt8.toNat ((lB + n9)))) (F0 rfl rfl rfl) rfl (Zg (.int .u8 (UInt8.toNat ((lB + n9)))) rfl rfl (Z3 (Za (Zo aE rfl (Zn (Iz (n8)) rfl rfl (Gd (Iz ((w64 (n8 + (1 : Int))))) rfl rfl rfl rfl (Zx (.int .u8 (UInt8.toNat ((u8w ((w64 (n8 + (1 : Int)))))))) (W3 underlying3 underlying5 rfl) rfl (Zn (.int .u8 (UInt8.toNat (n9))) rfl rfl (Zx (.int .u8 (UInt8.toNat (((u8w ((w64 (n8 + (1 : Int))))) * n9)))) (P_mul8 rfl rfl) rfl (Zx (.int .u8 (UInt8.toNat ((mB + ((u8w ((w64 (n8 + (1 : Int))))) * n9))))) (F0 rfl rfl rfl) rfl (Zx (.int .u8 (UInt8.toNat ((mB + ((u8w ((w64 (n8 + (1 : Int))))) * n9))))) (Tv rfl) rfl (Zb (Th ?_)))))))))))))))))));obtain ⟨rfl, rfl⟩ := Jb h;exact hQ _ _ ⟨mE, hfr, rfl, rfl, bE, lD, iE, cC⟩
   ·clear hx
    obtain ⟨bG, hfr, rE, vE, xE, yE, zE, cF⟩ := hR;refine Za (Gd (Iz ((w64 (n8 + (1 : Int))))) cF rfl rfl rfl (Zn (Iz ((w64 (n8 + (1 : Int))))) rfl rfl ?_));exact Z3 (xF (yB, zB, (w64 (n8 + (1 : Int)))) _ _ ⟨bG, hfr, rE, vE, xE, yE, zE, rfl⟩ h)
  ·refine Gy nD rfl (Tu (G5 (G5 (Tf ?_))))
   obtain ⟨rfl, rfl⟩ := Jb h;exact hQ _ _ ⟨mE, hfr, oD, aE⟩
 ·clear hx
  obtain ⟨mG, hfr, eF, rF⟩ := hR;refine Z5 (Zo eF rfl (Zo rF rfl (Zg (.int .u8 (UInt8.toNat (nB))) rfl rfl (Zg (.int .u8 (UInt8.toNat (oB))) rfl rfl (Z3 (Z9 ?_))))));obtain rfl := sinj h;exact J4 rfl rfl (rq (.int .u8 (UInt8.toNat (nB)))) (rq (.int .u8 (UInt8.toNat (oB)))) ⟨_, hfr, _, _, rfl, rfl, rfl⟩
def f139 (x0 : Int) (z0 : Int) (z1 : Int) : Option (Bool) :=
 Option.bind (α := Bool) (
  bif (decide (x0 < z0)) then
   some (true)
  else
   some ((decide (x0 > z1)))
  ) fun n8 =>
 some (n8)
theorem en139 : Enters prog 139 := enters_of func139 (by kernel_rfl) rfl
theorem wk139 {gI : Gh} {wI : World} {x0 : Int} {z0 : Int} {z1 : Int} {pf0 : Value} (qf0 : PT gI.m wI z0 pf0) {pf1 : Value} (qf1 : PT gI.m wI z1 pf1) {r : Bool} (h : f139 x0 z0 z1 = some r) : Fn prog 139 #[Iz (x0), pf0, pf1] gI wI (fun _ _ v => v = .bool (r)) := by
 unfold f139 at h;refine fnE func139 rfl rfl fun g0 hm hfr => ?_;have qf0 : PT g0.m wI z0 pf0 := hm ▸ qf0;have qf1 : PT g0.m wI z1 pf1 := hm ▸ qf1;show E _ 13 none _ _ _ _ _;refine Z5 (Zg (.bool false) rfl rfl (Z3 ?_));obtain ⟨n8, hx, h⟩ := Z1 h;refine G6 (fun e w => ∃ (g : Gh) , Fr gI wI g w ∧ e 4 = .bool (n8)) (fun Q' hQ => ?_) (fun aB w7 hR => ?_)
 ·replace h := hx
  clear hx;refine Za (Zn (Iz (x0)) rfl rfl (Z4 rfl (Z7 (g := g0) isAgg3 sizeOf3 rfl qf0 fun v4 r4 => ?_)));obtain rfl := Zj.1 r4;refine Gd (.bool ((decide (x0 < z0)))) rfl rfl rfl rfl (Zn (.bool ((decide (x0 < z0)))) rfl rfl ?_);rcases Zt h with ⟨hc5, h⟩ | ⟨hc5, h⟩
  ·refine Zz rfl rfl hc5 rfl rfl (Zz rfl rfl hc5 rfl rfl (Zz rfl rfl hc5 rfl rfl (Zx (.bool true) (Zl (b := (decide (x0 < z0))) rfl (Tc hc5 rfl)) rfl (Zg (.bool true) rfl rfl (Zb ?_)))))
   obtain rfl := sinj h;exact hQ _ _ ⟨g0, hfr, rfl⟩
  ·refine Zy (Iz (x0)) (Zk rfl) rfl rfl hc5 rfl (Ze (.yes2 rfl rfl hc5) rfl (Z7 (g := g0) isAgg3 sizeOf3 rfl qf1 fun v6 r6 => ?_))
   obtain rfl := Zj.1 r6;refine Zy (.bool ((decide (x0 > z1)))) (Gp rfl rfl rfl) rfl rfl hc5 rfl (Zx (.bool ((decide (x0 > z1)))) (Zl (b := (decide (x0 < z0))) rfl (Gz hc5 rfl)) rfl (Zg (.bool ((decide (x0 > z1)))) rfl rfl (Zb ?_)));obtain rfl := sinj h;exact hQ _ _ ⟨g0, hfr, rfl⟩
 ·clear hx
  obtain ⟨g7, hfr, n9⟩ := hR;refine Z9 ?_;obtain rfl := sinj h;exact G0 rfl rfl (show _ = .bool (n8) from n9) ⟨_, hfr, rfl⟩
def f148 (x0 : List Str) : Option ((List Str)) :=
 jn (σ := Unit) (fun _ =>
  jn (σ := Unit) (fun _ =>
   some (x0)
   ) fun k53 =>
  lp (σ := Int) (fun k54 n8 =>
   jn (σ := Unit) (fun _ =>
    jn (σ := Unit) (fun _ =>
     k54 ((w64 (n8 + (1 : Int))))
     ) fun oE =>
    (idx x0 n8).bind fun zB =>
    (idx x0 (w64 (n8 - (1 : Int)))).bind fun cC =>
    bif ((zB).b == (cC).b) then
     none
    else
     oE ()
    ) fun k57 =>
   bif (decide (n8 < ((x0).length : Int))) then
    k57 ()
   else
    k53 ()
   ) big ((1 : Int))
  ) fun k2 =>
 bif (decide (((x0).length : Int) < (2 : Int))) then
  some (x0)
 else
  k2 ()
theorem en148 : Enters prog 148 := enters_of func148 (by kernel_rfl) rfl
theorem wk148 {gI : Gh} {wI : World} {x0 : List Str} {up0 : Value} (rp0 : RV gI.m wI x0 up0) {r : (List Str)} (h : f148 x0 = some r) : Fn prog 148 #[up0] gI wI (fun m w v => RV m w (r) v) := by
 unfold f148 at h;refine fnE func148 rfl rfl fun g0 hm hfr => ?_;have rp0 := RVc hm rp0;show E _ 61 none _ _ _ _ _;refine Z5 (Zg (.slice none 0 0) rfl rfl (Z3 (Zq h (fun (s : Unit) e w => ∃ (g : Gh) , Fr gI wI g w ∧ e 0 = up0 ∧ RV g.m w (x0 : List Str) up0) (fun X2 k2 hk2 h => ?_) ?_)))
 ·refine Z5 (Zn up0 rfl rfl (Zx (Iz ((x0).length : Int)) (G3 underlying104 rfl rp0) rfl (Gd (.bool ((decide (((x0).length : Int) < (2 : Int))))) rfl rfl rfl rfl (Z3 ?_))))
  rcases Zt h with ⟨hc3, h⟩ | ⟨hc3, h⟩
  ·refine Gx hc3 rfl (Z5 (Zn up0 rfl rfl (Zg up0 rfl rfl (Z3 (Z9 (Gf ?_))))))
   obtain rfl := sinj h;exact G0 rfl rfl (rq up0) ⟨_, hfr, rp0⟩
  ·refine Gy hc3 rfl ?_
   exact Zu (Zd (hk2 () _ _ ⟨g0, hfr, rfl, rp0⟩ h))
 ·rintro _ zG w4 ⟨g4, hfr, vE, xE⟩ h
  refine Zq h (fun (s : Unit) e w => ∃ (g : Gh) , Fr gI wI g w ∧ e 0 = up0 ∧ RV g.m w (x0 : List Str) up0) (fun X53 k53 yE h => ?_) ?_
  ·refine Z5 (Zg (Iz (1)) rfl rfl (Z3 (Zr (Kv h (fun (s : Int) e w => ∃ (g : Gh) , Fr gI wI g w ∧ e 0 = up0 ∧ RV g.m w (x0 : List Str) up0 ∧ e 3 = Iz (s)) ⟨g4, hfr, vE, xE, rfl⟩ (fun X54 k54 zE => ?_)))))
   rintro n8 jG cH ⟨rE, hfr, mB, nB, lD⟩ h;refine Zq h (fun (s : Unit) e w => ∃ (g : Gh) , Fr gI wI g w ∧ e 0 = up0 ∧ RV g.m w (x0 : List Str) up0 ∧ e 3 = Iz (n8)) (fun X57 k57 cF h => ?_) ?_
   ·refine Z5 (Zo lD rfl (Zo mB rfl (Zx (Iz ((x0).length : Int)) (G3 underlying104 rfl nB) rfl (Gd (.bool ((decide (n8 < ((x0).length : Int))))) rfl rfl rfl rfl (Z3 ?_)))))
    rcases Zt h with ⟨yB, h⟩ | ⟨yB, h⟩
    ·refine Gx yB rfl ?_
     exact Zu (Zd (cF () _ _ ⟨rE, hfr, mB, nB, lD⟩ h))
    ·refine Gy yB rfl (Tu (G5 (G5 (Tf ?_))))
     exact Zd (yE () _ _ ⟨rE, hfr, mB, nB⟩ h)
   ·rintro _ kG gH ⟨xF, hfr, aB, n9, lB⟩ h
    refine Zq h (fun (s : Unit) e w => ∃ (g : Gh) , Fr gI wI g w ∧ e 0 = up0 ∧ RV g.m w (x0 : List Str) up0 ∧ e 3 = Iz (n8)) (fun X81 oE eF h => ?_) ?_
    ·refine Zr (Zf ?_)
     obtain ⟨zB, nD, h⟩ := Z1 h;have yF := Gn n9 nD;refine Zs (x := .tmp 18) isAgg9 sizeOf9 yF fun jH aG rF => ?_;obtain rfl := Ts.1 aG;obtain ⟨cC, oD, h⟩ := Z1 h;have bG := Gn n9 oD;refine Zs (x := .tmp 23) isAgg9 sizeOf9 bG fun kH cG sF => ?_;obtain rfl := Ts.1 cG;refine T6 (g := xF) (n := 10) [] [0, 1, 2, 3, 4, 5, 6, 7, 8, 9] rfl mixed (by kernel_rfl) trivial (Z0 up0 rfl rfl (Zk aB) (Z0 (Iz (n8)) rfl rfl (Zk lB) (Z0 (Gq up0 n8 1) rfl rfl (Zh (α := Str) underlying104 sizeOf9 rfl n9 rfl nD) (Ti (c := Str.v (zB)) rfl rfl .plain (fun _ _ h => h.ch) rF rfl (Z0 up0 rfl rfl (Zk aB) (Z0 (Iz (n8)) rfl rfl (Zk lB) (Z0 (Iz ((w64 (n8 - (1 : Int))))) rfl rfl (Gp rfl rfl rfl) (Z0 (Gq up0 (w64 (n8 - (1 : Int))) 1) rfl rfl (Zh (α := Str) underlying104 sizeOf9 rfl n9 rfl oD) (Ti (c := Str.v (cC)) rfl rfl .plain (fun _ _ h => h.ch) sF rfl (Z0 (.bool (((zB).b == (cC).b))) rfl rfl (W2 rfl rfl rfl) (Jd fun eG lH hs => ?_)))))))))));have hfr := hfr.ext hs;have n9 := n9.ext hs;clear hs;refine Z3 ?_;rcases Zt h with ⟨oB, h⟩ | ⟨oB, h⟩
     ·refine Gx oB rfl (Z5 (Zo aB rfl (Zo lB rfl ?_)))
      cases h
     ·refine Gy oB rfl ?_
      exact Zu (Th (Zd (eF () _ _ ⟨eG, hfr, aB, n9, lB⟩ h)))
    ·rintro _ gG lG ⟨vF, hfr, aE, bE, iE⟩ h
     refine Za (Zo iE rfl (Gd (Iz ((w64 (n8 + (1 : Int))))) rfl rfl rfl rfl (Zg (Iz ((w64 (n8 + (1 : Int))))) rfl rfl ?_)));exact Z3 (zE ((w64 (n8 + (1 : Int)))) _ _ ⟨vF, hfr, aE, bE, rfl⟩ h)
  ·rintro _ iG mG ⟨yG, hfr, lE, mE⟩ h
   refine Z5 (Zo lE rfl (Zg up0 rfl rfl (Z3 (Z9 ?_))));obtain rfl := sinj h;exact G0 rfl rfl (rq up0) ⟨_, hfr, mE⟩
def f150 (x0 : List Gs) (x1 : Gs → Option Bool) : Option (Int) :=
 jn (σ := Unit) (fun _ =>
  some ((-1 : Int))
  ) fun k18 =>
 lp (σ := Int) (fun k19 n8 =>
  bif (decide (n8 < ((x0).length : Int))) then
   jn (σ := Unit) (fun _ =>
    k19 ((w64 (n8 + (1 : Int))))
    ) fun k28 =>
   (idx x0 n8).bind fun iE =>
   (x1 iE).bind fun lE =>
   bif lE then
    some (n8)
   else
    k28 ()
  else
   k18 ()
  ) big ((0 : Int))
theorem en150 : Enters prog 150 := enters_of func150 (by kernel_rfl) rfl
theorem wk150 {gI : Gh} {wI : World} {x0 : List Gs} {x1 : Gs → Option Bool} {up0 : Value} (rp0 : RV gI.m wI x0 up0) {up1 : Value} (rp1 : H9 prog x1 up1 gI wI) {r : Int} (h : f150 x0 x1 = some r) : Fn prog 150 #[up0, up1] gI wI (fun _ _ v => v = Iz (r)) := by
 unfold f150 at h;refine fnE func150 rfl rfl fun g0 hm hfr => ?_;have rp0 := RVc hm rp0;obtain ⟨ff1, fa1, fc1, rfl, fen1, fcl1⟩ := rp1;show E _ 19 none _ _ _ _ _;refine Z5 (Zg (Iz (0)) rfl rfl (Z3 (Zq h (fun (s : Unit) e w => ∃ (g : Gh) , Fr gI wI g w) (fun X18 k18 mE h => ?_) ?_)))
 ·refine Z5 (Zn up0 rfl rfl (Zx (Iz ((x0).length : Int)) (G3 underlying36 rfl rp0) rfl (Zn (Iz (0)) rfl rfl (Z3 (Zr (Kv h (fun (s : Int) e w => ∃ (g : Gh) , Fr gI wI g w ∧ e 0 = up0 ∧ RV g.m w (x0 : List Gs) up0 ∧ e 1 = (.func (.func ff1) fa1 fc1) ∧ e 7 = Iz (((x0).length : Int)) ∧ e 8 = Iz (s)) ⟨g0, hfr, rfl, rp0, rfl, rfl, rfl⟩ (fun X19 k19 oE => ?_)))))))
  rintro n8 rF xF ⟨zB, hfr, nB, n9, oB, yB, aB⟩ h;refine Z5 (Gd (.bool ((decide (n8 < ((x0).length : Int))))) aB yB rfl rfl (Z3 (Zf ?_)));rcases Zt h with ⟨lB, h⟩ | ⟨lB, h⟩
  ·refine Gx lB rfl (Zu (Zd (Zq h (fun (s : Unit) e w => ∃ (g : Gh) , Fr gI wI g w ∧ e 0 = up0 ∧ RV g.m w (x0 : List Gs) up0 ∧ e 1 = (.func (.func ff1) fa1 fc1) ∧ e 7 = Iz (((x0).length : Int)) ∧ e 8 = Iz (n8)) (fun X28 k28 rE h => ?_) ?_)))
   ·refine Zr (Z5 (Zo aB rfl (Zg (Iz (n8)) rfl rfl (Z3 (Z5 (Zo oB rfl (Zo nB rfl (Zn (Iz (n8)) rfl rfl ?_))))))))
    obtain ⟨iE, cC, h⟩ := Z1 h;refine Zx (Gq up0 n8 3) (Zh (α := Gs) underlying36 sizeOf108 rfl n9 rfl cC) rfl ?_;have xE := Gn n9 cC;refine Z4 rfl (Z7 (g := zB) isAgg108 sizeOf108 rfl xE fun yE zE => ?_);obtain ⟨lE, vE, h⟩ := Z1 h;refine Z4 rfl (J0 (g := zB) (vs := [yE]) rfl fen1 (.cons rfl .nil) (fcl1 _ _ hfr.ch _ _ _  zE vE) fun cF yF aG hs hr => ?_);have hfr := hfr.ext hs;have n9 := n9.ext hs;obtain rfl := Wl.1 hr;refine Z3 ?_;rcases Zt h with ⟨mB, h⟩ | ⟨mB, h⟩
    ·refine Gx mB rfl (Z5 (Zn (Iz (n8)) rfl rfl (Zg (Iz (n8)) rfl rfl (Z3 (Z9 (G2 (Gf (Gf (G2 (Gf ?_))))))))))
     obtain rfl := sinj h;exact G0 rfl rfl (rq (Iz (n8))) ⟨_, hfr, rfl⟩
    ·refine Gy mB rfl ?_
     exact Zu (Th (Zd (rE () _ _ ⟨cF, hfr, nB, n9, oB, yB, aB⟩ h)))
   ·rintro _ sF bG ⟨eF, hfr, lD, nD, oD, aE, bE⟩ h
    refine Za (Gd (Iz ((w64 (n8 + (1 : Int))))) bE rfl rfl rfl (Zn (Iz ((w64 (n8 + (1 : Int))))) rfl rfl ?_));exact Z3 (oE ((w64 (n8 + (1 : Int)))) _ _ ⟨eF, hfr, lD, nD, oD, aE, rfl⟩ h)
  ·refine Gy lB rfl (Tu (G5 (G5 (Tf ?_))))
   exact Zd (mE () _ _ ⟨zB, hfr⟩ h)
 ·rintro _ vF cG ⟨eG, hfr⟩ h
  refine Z5 (Zg (Iz (-1)) rfl rfl (Z3 (Z9 ?_)));obtain rfl := sinj h;exact G0 rfl rfl (rq (Iz (-1))) ⟨_, hfr, rfl⟩
def f151 (x0 : List Gi) (x1 : Gi → Option Bool) : Option (Int) :=
 jn (σ := Unit) (fun _ =>
  some ((-1 : Int))
  ) fun k18 =>
 lp (σ := Int) (fun k19 n8 =>
  bif (decide (n8 < ((x0).length : Int))) then
   jn (σ := Unit) (fun _ =>
    k19 ((w64 (n8 + (1 : Int))))
    ) fun k28 =>
   (idx x0 n8).bind fun iE =>
   (x1 iE).bind fun lE =>
   bif lE then
    some (n8)
   else
    k28 ()
  else
   k18 ()
  ) big ((0 : Int))
theorem en151 : Enters prog 151 := enters_of func151 (by kernel_rfl) rfl
theorem wk151 {gI : Gh} {wI : World} {x0 : List Gi} {x1 : Gi → Option Bool} {up0 : Value} (rp0 : RV gI.m wI x0 up0) {up1 : Value} (rp1 : H9 prog x1 up1 gI wI) {r : Int} (h : f151 x0 x1 = some r) : Fn prog 151 #[up0, up1] gI wI (fun _ _ v => v = Iz (r)) := by
 unfold f151 at h;refine fnE func151 rfl rfl fun g0 hm hfr => ?_;have rp0 := RVc hm rp0;obtain ⟨ff1, fa1, fc1, rfl, fen1, fcl1⟩ := rp1;show E _ 19 none _ _ _ _ _;refine Z5 (Zg (Iz (0)) rfl rfl (Z3 (Zq h (fun (s : Unit) e w => ∃ (g : Gh) , Fr gI wI g w) (fun X18 k18 mE h => ?_) ?_)))
 ·refine Z5 (Zn up0 rfl rfl (Zx (Iz ((x0).length : Int)) (G3 underlying37 rfl rp0) rfl (Zn (Iz (0)) rfl rfl (Z3 (Zr (Kv h (fun (s : Int) e w => ∃ (g : Gh) , Fr gI wI g w ∧ e 0 = up0 ∧ RV g.m w (x0 : List Gi) up0 ∧ e 1 = (.func (.func ff1) fa1 fc1) ∧ e 7 = Iz (((x0).length : Int)) ∧ e 8 = Iz (s)) ⟨g0, hfr, rfl, rp0, rfl, rfl, rfl⟩ (fun X19 k19 oE => ?_)))))))
  rintro n8 rF xF ⟨zB, hfr, nB, n9, oB, yB, aB⟩ h;refine Z5 (Gd (.bool ((decide (n8 < ((x0).length : Int))))) aB yB rfl rfl (Z3 (Zf ?_)));rcases Zt h with ⟨lB, h⟩ | ⟨lB, h⟩
  ·refine Gx lB rfl (Zu (Zd (Zq h (fun (s : Unit) e w => ∃ (g : Gh) , Fr gI wI g w ∧ e 0 = up0 ∧ RV g.m w (x0 : List Gi) up0 ∧ e 1 = (.func (.func ff1) fa1 fc1) ∧ e 7 = Iz (((x0).length : Int)) ∧ e 8 = Iz (n8)) (fun X28 k28 rE h => ?_) ?_)))
   ·refine Zr (Z5 (Zo aB rfl (Zg (Iz (n8)) rfl rfl (Z3 (Z5 (Zo oB rfl (Zo nB rfl (Zn (Iz (n8)) rfl rfl ?_))))))))
    obtain ⟨iE, cC, h⟩ := Z1 h;refine Zx (Gq up0 n8 3) (Zh (α := Gi) underlying37 sizeOf94 rfl n9 rfl cC) rfl ?_;have xE := Gn n9 cC;refine Z4 rfl (Z7 (g := zB) isAgg94 sizeOf94 rfl xE fun yE zE => ?_);obtain ⟨lE, vE, h⟩ := Z1 h;refine Z4 rfl (J0 (g := zB) (vs := [yE]) rfl fen1 (.cons rfl .nil) (fcl1 _ _ hfr.ch _ _ _  zE vE) fun cF yF aG hs hr => ?_);have hfr := hfr.ext hs;have n9 := n9.ext hs;obtain rfl := Wl.1 hr;refine Z3 ?_;rcases Zt h with ⟨mB, h⟩ | ⟨mB, h⟩
    ·refine Gx mB rfl (Z5 (Zn (Iz (n8)) rfl rfl (Zg (Iz (n8)) rfl rfl (Z3 (Z9 (G2 (Gf (Gf (G2 (Gf ?_))))))))))
     obtain rfl := sinj h;exact G0 rfl rfl (rq (Iz (n8))) ⟨_, hfr, rfl⟩
    ·refine Gy mB rfl ?_
     exact Zu (Th (Zd (rE () _ _ ⟨cF, hfr, nB, n9, oB, yB, aB⟩ h)))
   ·rintro _ sF bG ⟨eF, hfr, lD, nD, oD, aE, bE⟩ h
    refine Za (Gd (Iz ((w64 (n8 + (1 : Int))))) bE rfl rfl rfl (Zn (Iz ((w64 (n8 + (1 : Int))))) rfl rfl ?_));exact Z3 (oE ((w64 (n8 + (1 : Int)))) _ _ ⟨eF, hfr, lD, nD, oD, aE, rfl⟩ h)
  ·refine Gy lB rfl (Tu (G5 (G5 (Tf ?_))))
   exact Zd (mE () _ _ ⟨zB, hfr⟩ h)
 ·rintro _ vF cG ⟨eG, hfr⟩ h
  refine Z5 (Zg (Iz (-1)) rfl rfl (Z3 (Z9 ?_)));obtain rfl := sinj h;exact G0 rfl rfl (rq (Iz (-1))) ⟨_, hfr, rfl⟩
def f159 (x0 : Int) : Option (Bool) :=
 some ((x0 != x0))
theorem en159 : Enters prog 159 := enters_of func159 (by kernel_rfl) rfl
theorem wk159 {gI : Gh} {wI : World} {x0 : Int}  {r : Bool} (h : f159 x0 = some r) : Fn prog 159 #[Iz (x0)] gI wI (fun _ _ v => v = .bool (r)) := by
 unfold f159 at h;refine fnE func159 rfl rfl fun g0 hm hfr => ?_;show E _ 6 none _ _ _ _ _;refine Z5 (Zg (.bool false) rfl rfl (Z3 (Z5 (Zn (Iz (x0)) rfl rfl (Zn (Iz (x0)) rfl rfl (Gd (.bool ((x0 != x0))) rfl rfl rfl rfl (Zg (.bool ((x0 != x0))) rfl rfl (Z3 (Z9 ?_)))))))));obtain rfl := sinj h;exact G0 rfl rfl (rq (.bool ((x0 != x0)))) ⟨_, hfr, rfl⟩
def f160 (z0 : List UInt8) (z1 : Int) (σ : Type) (cons : U9 σ (List UInt8)) (s0 : σ) : Option σ :=
 lp (σ := σ × Int) (fun k1 (nB, n8) =>
  jn (σ := Unit) (fun _ =>
   jn (σ := σ) (fun oB =>
    k1 (oB, (w64 (n8 + z1)))
    ) fun k32 =>
   (cut z0 n8 ((z0).length : Int)).bind fun n9 =>
   (cut z0 n8 (w64 (n8 + (Jy z1 ((n9).length : Int))))).bind fun aE =>
   (cons nB aE).bind fun (zB, yB) =>
   bif (!zB) then
    some yB
   else
    k32 (yB)
   ) fun k5 =>
  bif (decide (n8 < ((z0).length : Int))) then
   k5 ()
  else
   some nB
  ) big (s0, (0 : Int))
theorem en160 : Enters prog 160 := enters_of func160 (by kernel_rfl) rfl
theorem wk160 {σ : Type} {cons : U9 σ (List UInt8)} {s0 r : σ} {gI : Gh} {wI : World} {z0 : List UInt8} {z1 : Int} {pf0 : Value} (qf0 : PT gI.m wI z0 pf0) {pf1 : Value} (qf1 : PT gI.m wI z1 pf1) (h : f160 z0 z1 σ cons s0 = some r) : Rx prog (RA1 (α := (List UInt8))) 160 #[] #[pf0, pf1] gI wI cons s0 r := by
 unfold f160 at h;refine Pm func160 rfl (Nat.le_of_ble_eq_true rfl) fun l B J g0 hm hAb hRo hfr => ?_;have qf0 : PT g0.m wI z0 pf0 := hm ▸ qf0;have qf1 : PT g0.m wI z1 pf1 := hm ▸ qf1;show E _ 31 none _ _ (W8 #[.func (.yield l) #[] #[], pf0, pf1]) _ _;refine Z5 (Zg (Iz (0)) rfl rfl (Z3 (Zr (Kv h (fun (s : σ × Int) e w => ∃ (g : Gh) , FrY gI wI B J (s.1) g w ∧ e 0 = (.func (.yield l) #[] #[]) ∧ e 1 = pf0 ∧ PT g.m w (z0 : List UInt8) pf0 ∧ e 2 = pf1 ∧ PT g.m w (z1 : Int) pf1 ∧ e 4 = Iz (s.2)) ⟨g0, hfr, rfl, rfl, qf0, rfl, qf1, rfl⟩ (fun X1 k1 hk1 => ?_)))));rintro ⟨nB, n8⟩ kH w2 ⟨g2, hfr, aG, bE, iE, bG, cG, lE⟩ h;refine Zq h (fun (s : Unit) e w => ∃ (g : Gh) , FrY gI wI B J (nB) g w ∧ e 0 = (.func (.yield l) #[] #[]) ∧ e 1 = pf0 ∧ PT g.m w (z0 : List UInt8) pf0 ∧ e 2 = pf1 ∧ PT g.m w (z1 : Int) pf1 ∧ e 4 = Iz (n8)) (fun X5 k5 hk5 h => ?_) ?_
 ·refine Z5 (Zo lE rfl (Z4 rfl (Z7 (g := g2) isAgg50 sizeOf50 bE iE fun v6 r6 => (Zx (Iz ((z0).length : Int)) (G3 underlying50 rfl r6) rfl (Gd (.bool ((decide (n8 < ((z0).length : Int))))) rfl rfl rfl rfl (Z3 ?_))))))
  rcases Zt h with ⟨mE, h⟩ | ⟨mE, h⟩
  ·refine Gx mE rfl ?_
   exact Zu (Zd (hk5 () _ _ ⟨g2, hfr, aG, bE, iE, bG, cG, lE⟩ h))
  ·refine Gy mE rfl (Tu (G5 (G5 (Tf ?_))))
   obtain rfl := sinj h;exact Ho rfl rfl (FrY.done hfr)
 ·rintro _ lH w8 ⟨g8, hfr, oE, cC, aB, rE, lB, mB⟩ h
  refine Zq h (fun (s : σ) e w => ∃ (g : Gh) , FrY gI wI B J (s) g w ∧ e 0 = (.func (.yield l) #[] #[]) ∧ e 1 = pf0 ∧ PT g.m w (z0 : List UInt8) pf0 ∧ e 2 = pf1 ∧ PT g.m w (z1 : Int) pf1 ∧ e 4 = Iz (n8)) (fun X32 k32 eG h => ?_) ?_
  ·refine Zr (Zf (Zs (x := .tmp 2) isAgg3 sizeOf3 lB fun mH kG gG => ?_))
   obtain rfl := Zj.1 kG;refine Zs (x := .tmp 1) isAgg50 sizeOf50 aB fun rF sF iG => ?_;obtain ⟨n9, vE, h⟩ := Z1 h;have lG := U7 sF vE;refine T6 (g := g8) (n := 7) [] [0, 1, 2, 3, 4, 5, 6] rfl mixed (by kernel_rfl) trivial (Ti (c := Iz (z1)) rfl rfl .plain (fun _ _ h => h.ch) gG rE (Ti (c := rF) rfl rfl .plain (fun _ _ h => h.ch) iG cC (Z0 (Iz (n8)) rfl rfl (Zk mB) (Z0 ((Kf rF (Int.toNat n8) (Int.toNat ((z0).length : Int)) 1)) rfl rfl (X9 underlying50 sizeOf5 rfl sF rfl rfl vE) (Z0 (Iz ((n9).length : Int)) rfl rfl (G3 underlying50 rfl lG) (Z0 (Iz (Jy z1 ((n9).length : Int))) rfl rfl (Om rfl rfl) (Z0 (Iz (Jy z1 ((n9).length : Int))) rfl rfl (Tv rfl) (Jd fun vF nH hs => ?_))))))));have hfr := hfr.ext_ hAb hs;have aB := aB.ext hs;have lB := lB.ext hs;clear hs;refine Z3 (Z5 (Zo oE rfl (Z4 rfl (Z7 (g := vF) isAgg50 sizeOf50 cC aB fun mG xF => (Zo mB rfl (Zo mB rfl (Zn (Iz (Jy z1 ((n9).length : Int))) rfl rfl (Zx (Iz ((w64 (n8 + (Jy z1 ((n9).length : Int)))))) (Gp rfl rfl rfl) rfl (Zo mB rfl (Zn (Iz (Jy z1 ((n9).length : Int))) rfl rfl (Zx (Iz ((w64 (n8 + (Jy z1 ((n9).length : Int)))))) (Gp rfl rfl rfl) rfl ?_)))))))))));obtain ⟨aE, xE, h⟩ := Z1 h;have yG := M9 xF xE;refine Zx ((C5 mG (Int.toNat n8) (Int.toNat (w64 (n8 + (Jy z1 ((n9).length : Int))))) 1)) (Af underlying50 sizeOf5 rfl xF rfl rfl rfl xE) rfl ?_;obtain ⟨zG, jG, h⟩ := Z1 h;obtain ⟨zB, yB⟩ := zG;refine Z4 rfl (Lr (g := vF) (x := aE) rfl (.cons rfl .nil) hRo hfr jG ⟨_, rfl, yG⟩ fun cH oH hs hfrY => ?_);have aB := aB.stp hs;have lB := lB.stp hs;have hfr := hfrY;clear hfrY;refine Zx (.bool (!zB)) (Qj rfl) rfl (Z3 ?_);rcases Zt h with ⟨lD, h⟩ | ⟨lD, h⟩
   ·refine Gx lD rfl (Z9 (G2 (Gf (Gf (G2 ?_)))))
    obtain rfl := sinj h;exact end0 rfl rfl (FrY.done hfr)
   ·refine Gy lD rfl ?_
    exact Zu (Th (Zd (eG (yB) _ _ ⟨cH, hfr, oE, cC, aB, rE, lB, mB⟩ h)))
  ·rintro oB jH pH ⟨yF, hfr, yE, zE, cF, nD, oD, eF⟩ h
   refine Za (Zo eF rfl (Z4 rfl (Z7 (g := yF) isAgg3 sizeOf3 nD oD fun qH gH => ?_)));obtain rfl := Zj.1 gH;refine Gd (Iz ((w64 (n8 + z1)))) rfl rfl rfl rfl (Zg (Iz ((w64 (n8 + z1)))) rfl rfl ?_);exact Z3 (hk1 (oB, (w64 (n8 + z1))) _ _ ⟨yF, hfr, yE, zE, cF, nD, oD, rfl⟩ h)
def f165 (x0 : Gj) (x1 : Int) (x2 : Int) : Option (Int) :=
 (H3 (w64 (x1 + x2)) ((((x0).ChainBelt).Cards).length : Int)).bind fun y5 =>
 some (y5)
theorem en165 : Enters prog 165 := enters_of func165 (by kernel_rfl) rfl
theorem wk165 {gI : Gh} {wI : World} {x0 : Gj} {x1 : Int} {x2 : Int} {up0 : Value} (rp0 : RV gI.m wI x0 up0) {r : Int} (h : f165 x0 x1 x2 = some r) : Fn prog 165 #[up0, Iz (x1), Iz (x2)] gI wI (fun _ _ v => v = Iz (r)) := by
 unfold f165 at h;refine fnE func165 rfl rfl fun g0 hm hfr => ?_;have rp0 := RVc hm rp0;show E _ 15 none _ _ _ _ _;refine Z5 (Z4 rfl (T1 (g := g0) rfl rp0 fun g1 w1 p1 hs q1 => ?_));have hfr := hfr.ext hs;refine Zg (Iz (0)) rfl rfl (Z3 (Z5 (Zn (Iz (x1)) rfl rfl (Zn (Iz (x2)) rfl rfl (Gd (Iz ((w64 (x1 + x2)))) rfl rfl rfl rfl (Zx (Gc p1 0) (Zc D4 rfl (PT.ptr q1)) rfl ?_))))));have q2 := Zm (Kr).1 q1;refine Zx (Gc (Gc p1 0) 1) (Zc Hg rfl (PT.ptr q2)) rfl ?_;have q3 := Zm (Qi).1 q2;refine Z4 rfl (Z7 (g := g1) isAgg90 sizeOf90 rfl q3 fun v4 r4 => (Zx (Iz ((((x0).ChainBelt).Cards).length : Int)) (G3 underlying90 rfl r4) rfl ?_));obtain ⟨y5, hy5, h⟩ := Z1 h;refine Zx (Iz (y5)) (Gp rfl rfl (congrArg (Option.map (Value.int .i64)) hy5)) rfl (Zg (Iz (y5)) rfl rfl (Z3 (Z9 ?_)));obtain rfl := sinj h;exact G0 rfl rfl (rq (Iz (y5))) ⟨_, hfr, rfl⟩
def f169 (x0 : List Int) (x1 : Int → Option Bool) : Option (Int) :=
 jn (σ := Unit) (fun _ =>
  some ((-1 : Int))
  ) fun k18 =>
 lp (σ := Int) (fun k19 n8 =>
  bif (decide (n8 < ((x0).length : Int))) then
   jn (σ := Unit) (fun _ =>
    k19 ((w64 (n8 + (1 : Int))))
    ) fun k28 =>
   (idx x0 n8).bind fun zB =>
   (x1 zB).bind fun lE =>
   bif lE then
    some (n8)
   else
    k28 ()
  else
   k18 ()
  ) big ((0 : Int))
theorem en169 : Enters prog 169 := enters_of func169 (by kernel_rfl) rfl
theorem wk169 {gI : Gh} {wI : World} {x0 : List Int} {x1 : Int → Option Bool} {up0 : Value} (rp0 : RV gI.m wI x0 up0) {up1 : Value} (rp1 : H9 prog x1 up1 gI wI) {r : Int} (h : f169 x0 x1 = some r) : Fn prog 169 #[up0, up1] gI wI (fun _ _ v => v = Iz (r)) := by
 unfold f169 at h;refine fnE func169 rfl rfl fun g0 hm hfr => ?_;have rp0 := RVc hm rp0;obtain ⟨ff1, fa1, fc1, rfl, fen1, fcl1⟩ := rp1;show E _ 19 none _ _ _ _ _;refine Z5 (Zg (Iz (0)) rfl rfl (Z3 (Zq h (fun (s : Unit) e w => ∃ (g : Gh) , Fr gI wI g w) (fun X18 k18 mE h => ?_) ?_)))
 ·refine Z5 (Zn up0 rfl rfl (Zx (Iz ((x0).length : Int)) (G3 underlying22 rfl rp0) rfl (Zn (Iz (0)) rfl rfl (Z3 (Zr (Kv h (fun (s : Int) e w => ∃ (g : Gh) , Fr gI wI g w ∧ e 0 = up0 ∧ RV g.m w (x0 : List Int) up0 ∧ e 1 = (.func (.func ff1) fa1 fc1) ∧ e 7 = Iz (((x0).length : Int)) ∧ e 8 = Iz (s)) ⟨g0, hfr, rfl, rp0, rfl, rfl, rfl⟩ (fun X19 k19 oE => ?_)))))))
  rintro n8 eF vF ⟨cC, hfr, nB, n9, oB, yB, aB⟩ h;refine Z5 (Gd (.bool ((decide (n8 < ((x0).length : Int))))) aB yB rfl rfl (Z3 (Zf ?_)));rcases Zt h with ⟨lB, h⟩ | ⟨lB, h⟩
  ·refine Gx lB rfl (Zu (Zd (Zq h (fun (s : Unit) e w => ∃ (g : Gh) , Fr gI wI g w ∧ e 0 = up0 ∧ RV g.m w (x0 : List Int) up0 ∧ e 1 = (.func (.func ff1) fa1 fc1) ∧ e 7 = Iz (((x0).length : Int)) ∧ e 8 = Iz (n8)) (fun X28 k28 rE h => ?_) ?_)))
   ·refine Zr (Z5 (Zo aB rfl (Zg (Iz (n8)) rfl rfl (Z3 (Z5 (Zo oB rfl (Zo nB rfl (Zn (Iz (n8)) rfl rfl ?_))))))))
    obtain ⟨zB, lD, h⟩ := Z1 h;refine Zx (Gq up0 n8 1) (Zh (α := Int) underlying22 sizeOf3 rfl n9 rfl lD) rfl ?_;have xE := Gn n9 lD;refine Z4 rfl (Z7 (g := cC) isAgg3 sizeOf3 rfl xE fun xF yE => ?_);obtain rfl := Zj.1 yE;obtain ⟨lE, vE, h⟩ := Z1 h;refine Z4 rfl (J0 (g := cC) (vs := [Iz (zB)]) rfl fen1 (.cons rfl .nil) (fcl1 _ _ hfr.ch _ _ _  (Zj.2 rfl) vE) fun zE yF aG hs hr => ?_);have hfr := hfr.ext hs;have n9 := n9.ext hs;obtain rfl := Wl.1 hr;refine Z3 ?_;rcases Zt h with ⟨mB, h⟩ | ⟨mB, h⟩
    ·refine Gx mB rfl (Z5 (Zn (Iz (n8)) rfl rfl (Zg (Iz (n8)) rfl rfl (Z3 (Z9 (G2 (Gf (Gf (G2 (Gf ?_))))))))))
     obtain rfl := sinj h;exact G0 rfl rfl (rq (Iz (n8))) ⟨_, hfr, rfl⟩
    ·refine Gy mB rfl ?_
     exact Zu (Th (Zd (rE () _ _ ⟨zE, hfr, nB, n9, oB, yB, aB⟩ h)))
   ·rintro _ rF bG ⟨cF, hfr, nD, oD, aE, bE, iE⟩ h
    refine Za (Gd (Iz ((w64 (n8 + (1 : Int))))) iE rfl rfl rfl (Zn (Iz ((w64 (n8 + (1 : Int))))) rfl rfl ?_));exact Z3 (oE ((w64 (n8 + (1 : Int)))) _ _ ⟨cF, hfr, nD, oD, aE, bE, rfl⟩ h)
  ·refine Gy lB rfl (Tu (G5 (G5 (Tf ?_))))
   exact Zd (mE () _ _ ⟨cC, hfr⟩ h)
 ·rintro _ sF cG ⟨eG, hfr⟩ h
  refine Z5 (Zg (Iz (-1)) rfl rfl (Z3 (Z9 ?_)));obtain rfl := sinj h;exact G0 rfl rfl (rq (Iz (-1))) ⟨_, hfr, rfl⟩
def f172 (x0 : Int) (z0 : Int) (z1 : Int) : Option (Bool) :=
 Option.bind (α := Bool) (
  bif (decide (x0 < z0)) then
   some (true)
  else
   some ((decide (x0 > z1)))
  ) fun n8 =>
 some (n8)
theorem en172 : Enters prog 172 := enters_of func172 (by kernel_rfl) rfl
theorem wk172 {gI : Gh} {wI : World} {x0 : Int} {z0 : Int} {z1 : Int} {pf0 : Value} (qf0 : PT gI.m wI z0 pf0) {pf1 : Value} (qf1 : PT gI.m wI z1 pf1) {r : Bool} (h : f172 x0 z0 z1 = some r) : Fn prog 172 #[Iz (x0), pf0, pf1] gI wI (fun _ _ v => v = .bool (r)) := by
 unfold f172 at h;refine fnE func172 rfl rfl fun g0 hm hfr => ?_;have qf0 : PT g0.m wI z0 pf0 := hm ▸ qf0;have qf1 : PT g0.m wI z1 pf1 := hm ▸ qf1;show E _ 13 none _ _ _ _ _;refine Z5 (Zg (.bool false) rfl rfl (Z3 ?_));obtain ⟨n8, hx, h⟩ := Z1 h;refine G6 (fun e w => ∃ (g : Gh) , Fr gI wI g w ∧ e 4 = .bool (n8)) (fun Q' hQ => ?_) (fun aB w7 hR => ?_)
 ·replace h := hx
  clear hx;refine Za (Zn (Iz (x0)) rfl rfl (Z4 rfl (Z7 (g := g0) isAgg3 sizeOf3 rfl qf0 fun v4 r4 => ?_)));obtain rfl := Zj.1 r4;refine Gd (.bool ((decide (x0 < z0)))) rfl rfl rfl rfl (Zn (.bool ((decide (x0 < z0)))) rfl rfl ?_);rcases Zt h with ⟨hc5, h⟩ | ⟨hc5, h⟩
  ·refine Zz rfl rfl hc5 rfl rfl (Zz rfl rfl hc5 rfl rfl (Zz rfl rfl hc5 rfl rfl (Zx (.bool true) (Zl (b := (decide (x0 < z0))) rfl (Tc hc5 rfl)) rfl (Zg (.bool true) rfl rfl (Zb ?_)))))
   obtain rfl := sinj h;exact hQ _ _ ⟨g0, hfr, rfl⟩
  ·refine Zy (Iz (x0)) (Zk rfl) rfl rfl hc5 rfl (Ze (.yes2 rfl rfl hc5) rfl (Z7 (g := g0) isAgg3 sizeOf3 rfl qf1 fun v6 r6 => ?_))
   obtain rfl := Zj.1 r6;refine Zy (.bool ((decide (x0 > z1)))) (Gp rfl rfl rfl) rfl rfl hc5 rfl (Zx (.bool ((decide (x0 > z1)))) (Zl (b := (decide (x0 < z0))) rfl (Gz hc5 rfl)) rfl (Zg (.bool ((decide (x0 > z1)))) rfl rfl (Zb ?_)));obtain rfl := sinj h;exact hQ _ _ ⟨g0, hfr, rfl⟩
 ·clear hx
  obtain ⟨g7, hfr, n9⟩ := hR;refine Z9 ?_;obtain rfl := sinj h;exact G0 rfl rfl (show _ = .bool (n8) from n9) ⟨_, hfr, rfl⟩
def f175 (x0 : I32) : Option (Bool) :=
 Option.bind (α := Bool) (
  bif (decide ((x0).n < (97 : Int))) then
   some (true)
  else
   some ((decide ((x0).n > (122 : Int))))
  ) fun n8 =>
 some (n8)
theorem en175 : Enters prog 175 := enters_of func175 (by kernel_rfl) rfl
theorem wk175 {gI : Gh} {wI : World} {x0 : I32}  {r : Bool} (h : f175 x0 = some r) : Fn prog 175 #[.int .i32 ((x0).n)] gI wI (fun _ _ v => v = .bool (r)) := by
 unfold f175 at h;refine fnE func175 rfl rfl fun g0 hm hfr => ?_;show E _ 9 none _ _ _ _ _;refine Z5 (Zg (.bool false) rfl rfl (Z3 ?_));obtain ⟨n8, hx, h⟩ := Z1 h;refine G6 (fun e w => ∃ (g : Gh) , Fr gI wI g w ∧ e 2 = .bool (n8)) (fun Q' hQ => ?_) (fun aB w3 hR => ?_)
 ·replace h := hx
  clear hx;refine Za (Zn (.int .i32 ((x0).n)) rfl rfl (Zx (.bool (decide ((x0).n < (97 : Int)))) (Vh rfl rfl rfl) rfl (Zn (.bool (decide ((x0).n < (97 : Int)))) rfl rfl ?_)));rcases Zt h with ⟨hc2, h⟩ | ⟨hc2, h⟩
  ·refine Zz rfl rfl hc2 rfl rfl (Zz rfl rfl hc2 rfl rfl (Zx (.bool true) (Zl (b := (decide ((x0).n < (97 : Int)))) rfl (Tc hc2 rfl)) rfl (Zg (.bool true) rfl rfl (Zb ?_))))
   obtain rfl := sinj h;exact hQ _ _ ⟨g0, hfr, rfl⟩
  ·refine Zy (.int .i32 ((x0).n)) (Zk rfl) rfl rfl hc2 rfl (Zy (.bool (decide ((x0).n > (122 : Int)))) (Vh rfl rfl rfl) rfl rfl hc2 rfl (Zx (.bool (decide ((x0).n > (122 : Int)))) (Zl (b := (decide ((x0).n < (97 : Int)))) rfl (Gz hc2 rfl)) rfl (Zg (.bool (decide ((x0).n > (122 : Int)))) rfl rfl (Zb ?_))))
   obtain rfl := sinj h;exact hQ _ _ ⟨g0, hfr, rfl⟩
 ·clear hx
  obtain ⟨g3, hfr, n9⟩ := hR;refine Z9 ?_;obtain rfl := sinj h;exact G0 rfl rfl (show _ = .bool (n8) from n9) ⟨_, hfr, rfl⟩
def f177 (x0 : List Str) (x1 : Str → Option Bool) : Option (Int) :=
 jn (σ := Unit) (fun _ =>
  some ((-1 : Int))
  ) fun k18 =>
 lp (σ := Int) (fun k19 n8 =>
  bif (decide (n8 < ((x0).length : Int))) then
   jn (σ := Unit) (fun _ =>
    k19 ((w64 (n8 + (1 : Int))))
    ) fun k28 =>
   (idx x0 n8).bind fun zB =>
   (x1 zB).bind fun lE =>
   bif lE then
    some (n8)
   else
    k28 ()
  else
   k18 ()
  ) big ((0 : Int))
theorem en177 : Enters prog 177 := enters_of func177 (by kernel_rfl) rfl
theorem wk177 {gI : Gh} {wI : World} {x0 : List Str} {x1 : Str → Option Bool} {up0 : Value} (rp0 : RV gI.m wI x0 up0) {up1 : Value} (rp1 : H9 prog x1 up1 gI wI) {r : Int} (h : f177 x0 x1 = some r) : Fn prog 177 #[up0, up1] gI wI (fun _ _ v => v = Iz (r)) := by
 unfold f177 at h;refine fnE func177 rfl rfl fun g0 hm hfr => ?_;have rp0 := RVc hm rp0;obtain ⟨ff1, fa1, fc1, rfl, fen1, fcl1⟩ := rp1;show E _ 19 none _ _ _ _ _;refine Z5 (Zg (Iz (0)) rfl rfl (Z3 (Zq h (fun (s : Unit) e w => ∃ (g : Gh) , Fr gI wI g w) (fun X18 k18 mE h => ?_) ?_)))
 ·refine Z5 (Zn up0 rfl rfl (Zx (Iz ((x0).length : Int)) (G3 underlying104 rfl rp0) rfl (Zn (Iz (0)) rfl rfl (Z3 (Zr (Kv h (fun (s : Int) e w => ∃ (g : Gh) , Fr gI wI g w ∧ e 0 = up0 ∧ RV g.m w (x0 : List Str) up0 ∧ e 1 = (.func (.func ff1) fa1 fc1) ∧ e 7 = Iz (((x0).length : Int)) ∧ e 8 = Iz (s)) ⟨g0, hfr, rfl, rp0, rfl, rfl, rfl⟩ (fun X19 k19 oE => ?_)))))))
  rintro n8 eF vF ⟨cC, hfr, nB, n9, oB, yB, aB⟩ h;refine Z5 (Gd (.bool ((decide (n8 < ((x0).length : Int))))) aB yB rfl rfl (Z3 (Zf ?_)));rcases Zt h with ⟨lB, h⟩ | ⟨lB, h⟩
  ·refine Gx lB rfl (Zu (Zd (Zq h (fun (s : Unit) e w => ∃ (g : Gh) , Fr gI wI g w ∧ e 0 = up0 ∧ RV g.m w (x0 : List Str) up0 ∧ e 1 = (.func (.func ff1) fa1 fc1) ∧ e 7 = Iz (((x0).length : Int)) ∧ e 8 = Iz (n8)) (fun X28 k28 rE h => ?_) ?_)))
   ·refine Zr (Z5 (Zo aB rfl (Zg (Iz (n8)) rfl rfl (Z3 (Z5 (Zo oB rfl (Zo nB rfl (Zn (Iz (n8)) rfl rfl ?_))))))))
    obtain ⟨zB, lD, h⟩ := Z1 h;refine Zx (Gq up0 n8 1) (Zh (α := Str) underlying104 sizeOf9 rfl n9 rfl lD) rfl ?_;have xE := Gn n9 lD;refine Z4 rfl (Z7 (g := cC) isAgg9 sizeOf9 rfl xE fun xF yE => ?_);obtain rfl := Ts.1 yE;obtain ⟨lE, vE, h⟩ := Z1 h;refine Z4 rfl (J0 (g := cC) (vs := [Str.v (zB)]) rfl fen1 (.cons rfl .nil) (fcl1 _ _ hfr.ch _ _ _  (Ts.2 rfl) vE) fun zE yF aG hs hr => ?_);have hfr := hfr.ext hs;have n9 := n9.ext hs;obtain rfl := Wl.1 hr;refine Z3 ?_;rcases Zt h with ⟨mB, h⟩ | ⟨mB, h⟩
    ·refine Gx mB rfl (Z5 (Zn (Iz (n8)) rfl rfl (Zg (Iz (n8)) rfl rfl (Z3 (Z9 (G2 (Gf (Gf (G2 (Gf ?_))))))))))
     obtain rfl := sinj h;exact G0 rfl rfl (rq (Iz (n8))) ⟨_, hfr, rfl⟩
    ·refine Gy mB rfl ?_
     exact Zu (Th (Zd (rE () _ _ ⟨zE, hfr, nB, n9, oB, yB, aB⟩ h)))
   ·rintro _ rF bG ⟨cF, hfr, nD, oD, aE, bE, iE⟩ h
    refine Za (Gd (Iz ((w64 (n8 + (1 : Int))))) iE rfl rfl rfl (Zn (Iz ((w64 (n8 + (1 : Int))))) rfl rfl ?_));exact Z3 (oE ((w64 (n8 + (1 : Int)))) _ _ ⟨cF, hfr, nD, oD, aE, bE, rfl⟩ h)
  ·refine Gy lB rfl (Tu (G5 (G5 (Tf ?_))))
   exact Zd (mE () _ _ ⟨cC, hfr⟩ h)
 ·rintro _ sF cG ⟨eG, hfr⟩ h
  refine Z5 (Zg (Iz (-1)) rfl rfl (Z3 (Z9 ?_)));obtain rfl := sinj h;exact G0 rfl rfl (rq (Iz (-1))) ⟨_, hfr, rfl⟩
def f196 (x0 : Int) (z0 : Int) (z1 : Int) : Option (Bool) :=
 Option.bind (α := Bool) (
  bif (decide (x0 < z0)) then
   some (true)
  else
   some ((decide (x0 > z1)))
  ) fun n8 =>
 some (n8)
theorem en196 : Enters prog 196 := enters_of func196 (by kernel_rfl) rfl
theorem wk196 {gI : Gh} {wI : World} {x0 : Int} {z0 : Int} {z1 : Int} {pf0 : Value} (qf0 : PT gI.m wI z0 pf0) {pf1 : Value} (qf1 : PT gI.m wI z1 pf1) {r : Bool} (h : f196 x0 z0 z1 = some r) : Fn prog 196 #[Iz (x0), pf0, pf1] gI wI (fun _ _ v => v = .bool (r)) := by
 unfold f196 at h;refine fnE func196 rfl rfl fun g0 hm hfr => ?_;have qf0 : PT g0.m wI z0 pf0 := hm ▸ qf0;have qf1 : PT g0.m wI z1 pf1 := hm ▸ qf1;show E _ 13 none _ _ _ _ _;refine Z5 (Zg (.bool false) rfl rfl (Z3 ?_));obtain ⟨n8, hx, h⟩ := Z1 h;refine G6 (fun e w => ∃ (g : Gh) , Fr gI wI g w ∧ e 4 = .bool (n8)) (fun Q' hQ => ?_) (fun aB w7 hR => ?_)
 ·replace h := hx
  clear hx;refine Za (Zn (Iz (x0)) rfl rfl (Z4 rfl (Z7 (g := g0) isAgg3 sizeOf3 rfl qf0 fun v4 r4 => ?_)));obtain rfl := Zj.1 r4;refine Gd (.bool ((decide (x0 < z0)))) rfl rfl rfl rfl (Zn (.bool ((decide (x0 < z0)))) rfl rfl ?_);rcases Zt h with ⟨hc5, h⟩ | ⟨hc5, h⟩
  ·refine Zz rfl rfl hc5 rfl rfl (Zz rfl rfl hc5 rfl rfl (Zz rfl rfl hc5 rfl rfl (Zx (.bool true) (Zl (b := (decide (x0 < z0))) rfl (Tc hc5 rfl)) rfl (Zg (.bool true) rfl rfl (Zb ?_)))))
   obtain rfl := sinj h;exact hQ _ _ ⟨g0, hfr, rfl⟩
  ·refine Zy (Iz (x0)) (Zk rfl) rfl rfl hc5 rfl (Ze (.yes2 rfl rfl hc5) rfl (Z7 (g := g0) isAgg3 sizeOf3 rfl qf1 fun v6 r6 => ?_))
   obtain rfl := Zj.1 r6;refine Zy (.bool ((decide (x0 > z1)))) (Gp rfl rfl rfl) rfl rfl hc5 rfl (Zx (.bool ((decide (x0 > z1)))) (Zl (b := (decide (x0 < z0))) rfl (Gz hc5 rfl)) rfl (Zg (.bool ((decide (x0 > z1)))) rfl rfl (Zb ?_)));obtain rfl := sinj h;exact hQ _ _ ⟨g0, hfr, rfl⟩
 ·clear hx
  obtain ⟨g7, hfr, n9⟩ := hR;refine Z9 ?_;obtain rfl := sinj h;exact G0 rfl rfl (show _ = .bool (n8) from n9) ⟨_, hfr, rfl⟩
def f199 (x0 : U64) (x1 : U64) : Option (U64 × U64) :=
 (Kz ((x0).n) ((32 : Int))).bind fun y1 =>
 (Kz ((x1).n) ((32 : Int))).bind fun y2 =>
 (Kz (T2 ((G9 .and ((x0).n) ((4294967295 : Int))) * (G9 .and ((x1).n) ((4294967295 : Int))))) ((32 : Int))).bind fun y3 =>
 (Kz (T2 ((T2 (y1 * (G9 .and ((x1).n) ((4294967295 : Int))))) + y3)) ((32 : Int))).bind fun y4 =>
 (Kz (T2 ((G9 .and (T2 ((T2 (y1 * (G9 .and ((x1).n) ((4294967295 : Int))))) + y3)) ((4294967295 : Int))) + (T2 ((G9 .and ((x0).n) ((4294967295 : Int))) * y2)))) ((32 : Int))).bind fun y5 =>
 some ((⟨T2 ((T2 ((T2 (y1 * y2)) + y4)) + y5)⟩ : U64), (⟨T2 (((x0).n) * ((x1).n))⟩ : U64))
theorem en199 : Enters prog 199 := enters_of func199 (by kernel_rfl) rfl
theorem wk199 {gI : Gh} {wI : World} {x0 : U64} {x1 : U64}  {r : U64 × U64} (h : f199 x0 x1 = some r) : Fn prog 199 #[.int .u64 ((x0).n), .int .u64 ((x1).n)] gI wI (fun m w v => ∃ y0 y1, v = .tuple #[y0, y1] ∧ y0 = .int .u64 ((r.1).n) ∧ y1 = .int .u64 ((r.2).n)) := by
 unfold f199 at h;refine fnE func199 rfl rfl fun g0 hm hfr => ?_;show E _ 51 none _ _ _ _ _;refine Z5 (Zg (.int .u64 (0)) rfl rfl (Zg (.int .u64 (0)) rfl rfl (Z3 (Z5 (Zn (.int .u64 ((x0).n)) rfl rfl (Zx (.int .u64 (G9 .and ((x0).n) ((4294967295 : Int)))) (Kj (by simp) rfl rfl) rfl (Zg (.int .u64 (G9 .and ((x0).n) ((4294967295 : Int)))) rfl rfl (Z3 (Z5 (Zn (.int .u64 ((x0).n)) rfl rfl ?_))))))))));obtain ⟨y1, hy1, h⟩ := Z1 h;refine Zx (.int .u64 (y1)) (Je rfl rfl hy1) rfl (Zg (.int .u64 (y1)) rfl rfl (Z3 (Z5 (Zn (.int .u64 ((x1).n)) rfl rfl (Zx (.int .u64 (G9 .and ((x1).n) ((4294967295 : Int)))) (Kj (by simp) rfl rfl) rfl (Zg (.int .u64 (G9 .and ((x1).n) ((4294967295 : Int)))) rfl rfl (Z3 (Z5 (Zn (.int .u64 ((x1).n)) rfl rfl ?_)))))))));obtain ⟨y2, hy2, h⟩ := Z1 h;refine Zx (.int .u64 (y2)) (Je rfl rfl hy2) rfl (Zg (.int .u64 (y2)) rfl rfl (Z3 (Z5 (Zn (.int .u64 (G9 .and ((x0).n) ((4294967295 : Int)))) rfl rfl (Zn (.int .u64 (G9 .and ((x1).n) ((4294967295 : Int)))) rfl rfl (Zx (.int .u64 (T2 ((G9 .and ((x0).n) ((4294967295 : Int))) * (G9 .and ((x1).n) ((4294967295 : Int)))))) (D3 rfl rfl) rfl (Zg (.int .u64 (T2 ((G9 .and ((x0).n) ((4294967295 : Int))) * (G9 .and ((x1).n) ((4294967295 : Int)))))) rfl rfl (Z3 (Z5 (Zn (.int .u64 (y1)) rfl rfl (Zn (.int .u64 (G9 .and ((x1).n) ((4294967295 : Int)))) rfl rfl (Zx (.int .u64 (T2 (y1 * (G9 .and ((x1).n) ((4294967295 : Int)))))) (D3 rfl rfl) rfl (Zn (.int .u64 (T2 ((G9 .and ((x0).n) ((4294967295 : Int))) * (G9 .and ((x1).n) ((4294967295 : Int)))))) rfl rfl ?_)))))))))))));obtain ⟨y3, hy3, h⟩ := Z1 h;refine Zx (.int .u64 (y3)) (Je rfl rfl hy3) rfl (Zx (.int .u64 (T2 ((T2 (y1 * (G9 .and ((x1).n) ((4294967295 : Int))))) + y3))) (Ra rfl rfl) rfl (Zx (.int .u64 (T2 ((T2 (y1 * (G9 .and ((x1).n) ((4294967295 : Int))))) + y3))) (Tv rfl) rfl (Z3 (Z5 (Zx (.int .u64 (T2 ((T2 (y1 * (G9 .and ((x1).n) ((4294967295 : Int))))) + y3))) (Zk rfl) rfl (Zx (.int .u64 (G9 .and (T2 ((T2 (y1 * (G9 .and ((x1).n) ((4294967295 : Int))))) + y3)) ((4294967295 : Int)))) (Kj (by simp) rfl rfl) rfl (Zx (.int .u64 (G9 .and (T2 ((T2 (y1 * (G9 .and ((x1).n) ((4294967295 : Int))))) + y3)) ((4294967295 : Int)))) (Tv rfl) rfl (Z3 (Z5 (Zx (.int .u64 (T2 ((T2 (y1 * (G9 .and ((x1).n) ((4294967295 : Int))))) + y3))) (Zk rfl) rfl ?_))))))))));obtain ⟨y4, n8, h⟩ := Z1 h;refine Zx (.int .u64 (y4)) (Je rfl rfl n8) rfl (Zg (.int .u64 (y4)) rfl rfl (Z3 (Z5 (Zx (.int .u64 (G9 .and (T2 ((T2 (y1 * (G9 .and ((x1).n) ((4294967295 : Int))))) + y3)) ((4294967295 : Int)))) (Zk rfl) rfl (Zn (.int .u64 (G9 .and ((x0).n) ((4294967295 : Int)))) rfl rfl (Zn (.int .u64 (y2)) rfl rfl (Zx (.int .u64 (T2 ((G9 .and ((x0).n) ((4294967295 : Int))) * y2))) (D3 rfl rfl) rfl (Zx (.int .u64 (T2 ((G9 .and (T2 ((T2 (y1 * (G9 .and ((x1).n) ((4294967295 : Int))))) + y3)) ((4294967295 : Int))) + (T2 ((G9 .and ((x0).n) ((4294967295 : Int))) * y2))))) (Ra rfl rfl) rfl (Zx (.int .u64 (T2 ((G9 .and (T2 ((T2 (y1 * (G9 .and ((x1).n) ((4294967295 : Int))))) + y3)) ((4294967295 : Int))) + (T2 ((G9 .and ((x0).n) ((4294967295 : Int))) * y2))))) (Tv rfl) rfl (Z3 (Z5 (Zn (.int .u64 (y1)) rfl rfl (Zn (.int .u64 (y2)) rfl rfl (Zx (.int .u64 (T2 (y1 * y2))) (D3 rfl rfl) rfl (Zn (.int .u64 (y4)) rfl rfl (Zx (.int .u64 (T2 ((T2 (y1 * y2)) + y4))) (Ra rfl rfl) rfl (Zx (.int .u64 (T2 ((G9 .and (T2 ((T2 (y1 * (G9 .and ((x1).n) ((4294967295 : Int))))) + y3)) ((4294967295 : Int))) + (T2 ((G9 .and ((x0).n) ((4294967295 : Int))) * y2))))) (Zk rfl) rfl ?_)))))))))))))))));obtain ⟨y5, hy5, h⟩ := Z1 h;refine Zx (.int .u64 (y5)) (Je rfl rfl hy5) rfl (Zx (.int .u64 (T2 ((T2 ((T2 (y1 * y2)) + y4)) + y5))) (Ra rfl rfl) rfl (Zx (.int .u64 (T2 ((T2 ((T2 (y1 * y2)) + y4)) + y5))) (Tv rfl) rfl (Z3 (Z5 (Zn (.int .u64 ((x0).n)) rfl rfl (Zn (.int .u64 ((x1).n)) rfl rfl (Zx (.int .u64 (T2 (((x0).n) * ((x1).n)))) (D3 rfl rfl) rfl (Zg (.int .u64 (T2 (((x0).n) * ((x1).n)))) rfl rfl (Z3 (Z9 ?_))))))))));obtain rfl := sinj h;exact J4 rfl rfl (rq (.int .u64 (T2 ((T2 ((T2 (y1 * y2)) + y4)) + y5)))) (rq (.int .u64 (T2 (((x0).n) * ((x1).n))))) ⟨_, hfr, _, _, rfl, rfl, rfl⟩
def f201 (x0 : Bool) : Option (UInt8) :=
 jn (σ := Unit) (fun _ =>
  some ((46 : UInt8))
  ) fun k2 =>
 bif x0 then
  some ((120 : UInt8))
 else
  k2 ()
theorem en201 : Enters prog 201 := enters_of func201 (by kernel_rfl) rfl
theorem wk201 {gI : Gh} {wI : World} {x0 : Bool}  {r : UInt8} (h : f201 x0 = some r) : Fn prog 201 #[.bool (x0)] gI wI (fun _ _ v => v = .int .u8 (UInt8.toNat (r))) := by
 unfold f201 at h;refine fnE func201 rfl rfl fun g0 hm hfr => ?_;show E _ 4 none _ _ _ _ _;refine Z5 (Zg (.int .u8 (UInt8.toNat 0)) rfl rfl (Z3 (Zq h (fun (s : Unit) e w => ∃ (g : Gh) , Fr gI wI g w) (fun X2 k2 hk2 h => ?_) ?_)))
 ·refine Z5 (Zn (.bool (x0)) rfl rfl (Z3 ?_))
  rcases Zt h with ⟨hc3, h⟩ | ⟨hc3, h⟩
  ·refine Gx hc3 rfl (Z5 (Zg (.int .u8 (UInt8.toNat 120)) rfl rfl (Z3 (Z9 (Gf ?_)))))
   obtain rfl := sinj h;exact G0 rfl rfl (rq (.int .u8 (UInt8.toNat 120))) ⟨_, hfr, rfl⟩
  ·refine Gy hc3 rfl ?_
   exact Zu (Zd (hk2 () _ _ ⟨g0, hfr⟩ h))
 ·rintro _ n8 w4 ⟨g4, hfr⟩ h
  refine Z5 (Zg (.int .u8 (UInt8.toNat 46)) rfl rfl (Z3 (Z9 ?_)));obtain rfl := sinj h;exact G0 rfl rfl (rq (.int .u8 (UInt8.toNat 46))) ⟨_, hfr, rfl⟩
def f202 (x0 : Qe) (x1 : Int) (x2 : Int) : Option (Bool) :=
 (idx (((x0).TieHarness).Warps) x2).bind fun y5 =>
 (Kz x1 y5).bind fun y8 =>
 some (((W5 .and y8 (1 : Int)) == (1 : Int)))
theorem en202 : Enters prog 202 := enters_of func202 (by kernel_rfl) rfl
theorem wk202 {gI : Gh} {wI : World} {x0 : Qe} {x1 : Int} {x2 : Int} {up0 : Value} (rp0 : RV gI.m wI x0 up0) {r : Bool} (h : f202 x0 x1 x2 = some r) : Fn prog 202 #[up0, Iz (x1), Iz (x2)] gI wI (fun _ _ v => v = .bool (r)) := by
 unfold f202 at h;refine fnE func202 rfl rfl fun g0 hm hfr => ?_;have rp0 := RVc hm rp0;show E _ 17 none _ _ _ _ _;refine Z5 (Z4 rfl (T1 (g := g0) rfl rp0 fun g1 w1 p1 hs q1 => ?_));have hfr := hfr.ext hs;refine Zg (.bool false) rfl rfl (Z3 (Z5 (Zn (Iz (x1)) rfl rfl (Zx (Gc p1 0) (Zc Cb rfl (PT.ptr q1)) rfl ?_))));have q2 := Zm (H7).1 q1;refine Zx (Gc (Gc p1 0) 1) (Zc Hb rfl (PT.ptr q2)) rfl ?_;have q3 := Zm (Ql).1 q2;refine Z4 rfl (Z7 (g := g1) isAgg22 sizeOf22 rfl q3 fun v4 r4 => (Zn (Iz (x2)) rfl rfl ?_));obtain ⟨y5, hy5, h⟩ := Z1 h;refine Zx (Gq v4 x2 1) (Zh (α := Int) underlying22 sizeOf3 rfl r4 rfl hy5) rfl ?_;have q6 := Gn r4 hy5;refine Z4 rfl (Z7 (g := g1) isAgg3 sizeOf3 rfl q6 fun v7 r7 => ?_);obtain rfl := Zj.1 r7;obtain ⟨y8, n8, h⟩ := Z1 h;refine Zx (Iz (y8)) (Gp rfl rfl (congrArg (Option.map (Value.int .i64)) n8)) rfl (Gd (Iz ((W5 .and y8 (1 : Int)))) rfl rfl rfl rfl (Gd (.bool (((W5 .and y8 (1 : Int)) == (1 : Int)))) rfl rfl rfl rfl (Zg (.bool (((W5 .and y8 (1 : Int)) == (1 : Int)))) rfl rfl (Z3 (Z9 ?_)))));obtain rfl := sinj h;exact G0 rfl rfl (rq (.bool (((W5 .and y8 (1 : Int)) == (1 : Int))))) ⟨_, hfr, rfl⟩
def f211 (x0 : Str) : Option (Bool) :=
 some ((!((x0).b == (x0).b)))
theorem en211 : Enters prog 211 := enters_of func211 (by kernel_rfl) rfl
theorem wk211 {gI : Gh} {wI : World} {x0 : Str}  {r : Bool} (h : f211 x0 = some r) : Fn prog 211 #[Str.v (x0)] gI wI (fun _ _ v => v = .bool (r)) := by
 unfold f211 at h;refine fnE func211 rfl rfl fun g0 hm hfr => ?_;show E _ 6 none _ _ _ _ _;refine Z5 (Zg (.bool false) rfl rfl (Z3 (Z5 (Zn (Str.v (x0)) rfl rfl (Zn (Str.v (x0)) rfl rfl (Zx (.bool ((!((x0).b == (x0).b)))) (W2 rfl rfl rfl) rfl (Zg (.bool ((!((x0).b == (x0).b)))) rfl rfl (Z3 (Z9 ?_)))))))));obtain rfl := sinj h;exact G0 rfl rfl (rq (.bool ((!((x0).b == (x0).b))))) ⟨_, hfr, rfl⟩
def f228 (x0 : Int) (z0 : Int) (z1 : Int) : Option (Bool) :=
 Option.bind (α := Bool) (
  bif (decide (x0 < z0)) then
   some (true)
  else
   some ((decide (x0 > z1)))
  ) fun n8 =>
 some (n8)
theorem en228 : Enters prog 228 := enters_of func228 (by kernel_rfl) rfl
theorem wk228 {gI : Gh} {wI : World} {x0 : Int} {z0 : Int} {z1 : Int} {pf0 : Value} (qf0 : PT gI.m wI z0 pf0) {pf1 : Value} (qf1 : PT gI.m wI z1 pf1) {r : Bool} (h : f228 x0 z0 z1 = some r) : Fn prog 228 #[Iz (x0), pf0, pf1] gI wI (fun _ _ v => v = .bool (r)) := by
 unfold f228 at h;refine fnE func228 rfl rfl fun g0 hm hfr => ?_;have qf0 : PT g0.m wI z0 pf0 := hm ▸ qf0;have qf1 : PT g0.m wI z1 pf1 := hm ▸ qf1;show E _ 13 none _ _ _ _ _;refine Z5 (Zg (.bool false) rfl rfl (Z3 ?_));obtain ⟨n8, hx, h⟩ := Z1 h;refine G6 (fun e w => ∃ (g : Gh) , Fr gI wI g w ∧ e 4 = .bool (n8)) (fun Q' hQ => ?_) (fun aB w7 hR => ?_)
 ·replace h := hx
  clear hx;refine Za (Zn (Iz (x0)) rfl rfl (Z4 rfl (Z7 (g := g0) isAgg3 sizeOf3 rfl qf0 fun v4 r4 => ?_)));obtain rfl := Zj.1 r4;refine Gd (.bool ((decide (x0 < z0)))) rfl rfl rfl rfl (Zn (.bool ((decide (x0 < z0)))) rfl rfl ?_);rcases Zt h with ⟨hc5, h⟩ | ⟨hc5, h⟩
  ·refine Zz rfl rfl hc5 rfl rfl (Zz rfl rfl hc5 rfl rfl (Zz rfl rfl hc5 rfl rfl (Zx (.bool true) (Zl (b := (decide (x0 < z0))) rfl (Tc hc5 rfl)) rfl (Zg (.bool true) rfl rfl (Zb ?_)))))
   obtain rfl := sinj h;exact hQ _ _ ⟨g0, hfr, rfl⟩
  ·refine Zy (Iz (x0)) (Zk rfl) rfl rfl hc5 rfl (Ze (.yes2 rfl rfl hc5) rfl (Z7 (g := g0) isAgg3 sizeOf3 rfl qf1 fun v6 r6 => ?_))
   obtain rfl := Zj.1 r6;refine Zy (.bool ((decide (x0 > z1)))) (Gp rfl rfl rfl) rfl rfl hc5 rfl (Zx (.bool ((decide (x0 > z1)))) (Zl (b := (decide (x0 < z0))) rfl (Gz hc5 rfl)) rfl (Zg (.bool ((decide (x0 > z1)))) rfl rfl (Zb ?_)));obtain rfl := sinj h;exact hQ _ _ ⟨g0, hfr, rfl⟩
 ·clear hx
  obtain ⟨g7, hfr, n9⟩ := hR;refine Z9 ?_;obtain rfl := sinj h;exact G0 rfl rfl (show _ = .bool (n8) from n9) ⟨_, hfr, rfl⟩
def f231 (x0 : List Gb) (x1 : Gb → Option Bool) : Option (Int) :=
 jn (σ := Unit) (fun _ =>
  some ((-1 : Int))
  ) fun k18 =>
 lp (σ := Int) (fun k19 n8 =>
  bif (decide (n8 < ((x0).length : Int))) then
   jn (σ := Unit) (fun _ =>
    k19 ((w64 (n8 + (1 : Int))))
    ) fun k28 =>
   (idx x0 n8).bind fun iE =>
   (x1 iE).bind fun lE =>
   bif lE then
    some (n8)
   else
    k28 ()
  else
   k18 ()
  ) big ((0 : Int))
theorem en231 : Enters prog 231 := enters_of func231 (by kernel_rfl) rfl
theorem wk231 {gI : Gh} {wI : World} {x0 : List Gb} {x1 : Gb → Option Bool} {up0 : Value} (rp0 : RV gI.m wI x0 up0) {up1 : Value} (rp1 : H9 prog x1 up1 gI wI) {r : Int} (h : f231 x0 x1 = some r) : Fn prog 231 #[up0, up1] gI wI (fun _ _ v => v = Iz (r)) := by
 unfold f231 at h;refine fnE func231 rfl rfl fun g0 hm hfr => ?_;have rp0 := RVc hm rp0;obtain ⟨ff1, fa1, fc1, rfl, fen1, fcl1⟩ := rp1;show E _ 19 none _ _ _ _ _;refine Z5 (Zg (Iz (0)) rfl rfl (Z3 (Zq h (fun (s : Unit) e w => ∃ (g : Gh) , Fr gI wI g w) (fun X18 k18 mE h => ?_) ?_)))
 ·refine Z5 (Zn up0 rfl rfl (Zx (Iz ((x0).length : Int)) (G3 underlying90 rfl rp0) rfl (Zn (Iz (0)) rfl rfl (Z3 (Zr (Kv h (fun (s : Int) e w => ∃ (g : Gh) , Fr gI wI g w ∧ e 0 = up0 ∧ RV g.m w (x0 : List Gb) up0 ∧ e 1 = (.func (.func ff1) fa1 fc1) ∧ e 7 = Iz (((x0).length : Int)) ∧ e 8 = Iz (s)) ⟨g0, hfr, rfl, rp0, rfl, rfl, rfl⟩ (fun X19 k19 oE => ?_)))))))
  rintro n8 rF xF ⟨zB, hfr, nB, n9, oB, yB, aB⟩ h;refine Z5 (Gd (.bool ((decide (n8 < ((x0).length : Int))))) aB yB rfl rfl (Z3 (Zf ?_)));rcases Zt h with ⟨lB, h⟩ | ⟨lB, h⟩
  ·refine Gx lB rfl (Zu (Zd (Zq h (fun (s : Unit) e w => ∃ (g : Gh) , Fr gI wI g w ∧ e 0 = up0 ∧ RV g.m w (x0 : List Gb) up0 ∧ e 1 = (.func (.func ff1) fa1 fc1) ∧ e 7 = Iz (((x0).length : Int)) ∧ e 8 = Iz (n8)) (fun X28 k28 rE h => ?_) ?_)))
   ·refine Zr (Z5 (Zo aB rfl (Zg (Iz (n8)) rfl rfl (Z3 (Z5 (Zo oB rfl (Zo nB rfl (Zn (Iz (n8)) rfl rfl ?_))))))))
    obtain ⟨iE, cC, h⟩ := Z1 h;refine Zx (Gq up0 n8 3) (Zh (α := Gb) underlying90 sizeOf96 rfl n9 rfl cC) rfl ?_;have xE := Gn n9 cC;refine Z4 rfl (Z7 (g := zB) isAgg96 sizeOf96 rfl xE fun yE zE => ?_);obtain ⟨lE, vE, h⟩ := Z1 h;refine Z4 rfl (J0 (g := zB) (vs := [yE]) rfl fen1 (.cons rfl .nil) (fcl1 _ _ hfr.ch _ _ _  zE vE) fun cF yF aG hs hr => ?_);have hfr := hfr.ext hs;have n9 := n9.ext hs;obtain rfl := Wl.1 hr;refine Z3 ?_;rcases Zt h with ⟨mB, h⟩ | ⟨mB, h⟩
    ·refine Gx mB rfl (Z5 (Zn (Iz (n8)) rfl rfl (Zg (Iz (n8)) rfl rfl (Z3 (Z9 (G2 (Gf (Gf (G2 (Gf ?_))))))))))
     obtain rfl := sinj h;exact G0 rfl rfl (rq (Iz (n8))) ⟨_, hfr, rfl⟩
    ·refine Gy mB rfl ?_
     exact Zu (Th (Zd (rE () _ _ ⟨cF, hfr, nB, n9, oB, yB, aB⟩ h)))
   ·rintro _ sF bG ⟨eF, hfr, lD, nD, oD, aE, bE⟩ h
    refine Za (Gd (Iz ((w64 (n8 + (1 : Int))))) bE rfl rfl rfl (Zn (Iz ((w64 (n8 + (1 : Int))))) rfl rfl ?_));exact Z3 (oE ((w64 (n8 + (1 : Int)))) _ _ ⟨eF, hfr, lD, nD, oD, aE, rfl⟩ h)
  ·refine Gy lB rfl (Tu (G5 (G5 (Tf ?_))))
   exact Zd (mE () _ _ ⟨zB, hfr⟩ h)
 ·rintro _ vF cG ⟨eG, hfr⟩ h
  refine Z5 (Zg (Iz (-1)) rfl rfl (Z3 (Z9 ?_)));obtain rfl := sinj h;exact G0 rfl rfl (rq (Iz (-1))) ⟨_, hfr, rfl⟩
def f232 (x0 : Str) (x1 : I32 → Option Bool) (x2 : Bool) : Option (Int) :=
 jn (σ := Unit) (fun _ =>
  some ((-1 : Int))
  ) fun k8 =>
 lp (σ := Nat) (fun zB n8 =>
  bif (decide (n8 < (x0).b.length)) then
   (x1 ((⟨(dec x0 n8).1⟩ : I32))).bind fun yB =>
   bif (yB == x2) then
    some (((n8 : Nat) : Int))
   else
    zB ((n8 + (dec x0 n8).2))
  else
   k8 ()
  ) big (0)
theorem en232 : Enters prog 232 := enters_of func232 (by kernel_rfl) rfl
theorem wk232 {gI : Gh} {wI : World} {x0 : Str} {x1 : I32 → Option Bool} {x2 : Bool} {up1 : Value} (rp1 : H9 prog x1 up1 gI wI) {r : Int} (h : f232 x0 x1 x2 = some r) : Fn prog 232 #[Str.v (x0), up1, .bool (x2)] gI wI (fun _ _ v => v = Iz (r)) := by
 unfold f232 at h;refine fnE func232 rfl rfl fun g0 hm hfr => ?_;obtain ⟨ff1, fa1, fc1, rfl, fen1, fcl1⟩ := rp1;show E _ 21 none _ _ _ _ _;refine Z5 (Zg (Iz (0)) rfl rfl (Z3 (Zq h (fun (s : Unit) e w => ∃ (g : Gh) , Fr gI wI g w) (fun X8 k8 nD h => ?_) ?_)))
 ·refine Z5 (Zn (Str.v (x0)) rfl rfl (Z4 rfl (R7 (g := g0) (s := x0) 7010 underlying9 rfl fun g9 w9 p9 hs b9 => ?_)))
  have hfr := hfr.stp hs;refine Z3 (Zr (Kv h (fun (s : Nat) e w => ∃ (g : Gh) , Fr gI wI g w ∧ e 1 = (.func (.func ff1) fa1 fc1) ∧ e 2 = .bool (x2) ∧ e 10 = p9 ∧ SI 7010 g w (x0) (s) p9) ⟨g9, hfr, rfl, rfl, rfl, b9⟩ (fun X10 zB cC => ?_)));rintro n8 bE w11 ⟨g11, hfr, nB, oB, n9, aB⟩ h;refine Z5 ?_;rcases Zt h with ⟨lB, h⟩ | ⟨lB, h⟩
  ·refine Z4 rfl (Sk (g := g11) n9 aB lB fun oD lE hs b12 => ?_)
   have hfr := hfr.stp hs;refine Zx (.bool true) (Zi rfl rfl) rfl (Z3 (Zf (Ta (by rw [show ev _ _ = _ from rfl]; exact congrArg Value.bool rfl) (Zu (Zd (Zr (Z5 (Zx (Iz ((n8 : Nat) : Int)) (Zi rfl rfl) rfl (Zx (.int .i32 (dec x0 n8).1) (Zi rfl rfl) rfl (Zg (Iz ((n8 : Nat) : Int)) rfl rfl (Zg (.int .i32 (dec x0 n8).1) rfl rfl (Z3 (Z5 (Zo nB rfl (Zn (.int .i32 (dec x0 n8).1) rfl rfl ?_)))))))))))))));obtain ⟨yB, lD, h⟩ := Z1 h;refine Z4 rfl (J0 (g := oD) (vs := [.int .i32 (dec x0 n8).1]) rfl fen1 (.cons rfl .nil) (fcl1 _ _ hfr.ch _ _ _  (Az.2 rfl) lD) fun aE mE oE hs hr => ?_);have hfr := hfr.ext hs;have b12 := b12.ext hs;obtain rfl := Wl.1 hr;refine Zo oB rfl (Zx (.bool ((yB == x2))) (P_bool underlying4 rfl rfl rfl) rfl (Z3 ?_));rcases Zt h with ⟨mB, h⟩ | ⟨mB, h⟩
   ·refine Gx mB rfl (Z5 (Zn (Iz ((n8 : Nat) : Int)) rfl rfl (Zg (Iz ((n8 : Nat) : Int)) rfl rfl (Z3 (Z9 (G2 (Gf (G2 (Gf ?_)))))))))
    obtain rfl := sinj h;exact G0 rfl rfl (rq (Iz ((n8 : Nat) : Int))) ⟨_, hfr, rfl⟩
   ·refine Gy mB rfl ?_
    exact Zu (Th (Zd (cC ((n8 + (dec x0 n8).2)) _ _ ⟨aE, hfr, nB, oB, n9, b12⟩ h)))
  ·refine Z4 rfl (B5 (g := g11) n9 aB lB (Zx (.bool false) (Zi rfl rfl) rfl (Z3 (Zf (G1 (by rw [show ev _ _ = _ from rfl]; exact congrArg Value.bool rfl) (Tu (G5 (G5 (Tf ?_)))))))))
   exact Zd (nD () _ _ ⟨g11, hfr⟩ h)
 ·rintro _ iE rE ⟨vE, hfr⟩ h
  refine Z5 (Zg (Iz (-1)) rfl rfl (Z3 (Z9 ?_)));obtain rfl := sinj h;exact G0 rfl rfl (rq (Iz (-1))) ⟨_, hfr, rfl⟩
def f241 (x0 : U64) : Option (U64) :=
 (Kz ((x0).n) ((8 : Int))).bind fun y1 =>
 (Co (G9 .and ((x0).n) ((71777214294589695 : Int))) ((8 : Int))).bind fun y2 =>
 (Kz (G9 .or (G9 .and y1 ((71777214294589695 : Int))) y2) ((16 : Int))).bind fun y3 =>
 (Co (G9 .and (G9 .or (G9 .and y1 ((71777214294589695 : Int))) y2) ((281470681808895 : Int))) ((16 : Int))).bind fun y4 =>
 (Kz (G9 .or (G9 .and y3 ((281470681808895 : Int))) y4) ((32 : Int))).bind fun y5 =>
 (Co (G9 .or (G9 .and y3 ((281470681808895 : Int))) y4) ((32 : Int))).bind fun y6 =>
 some ((⟨G9 .or y5 y6⟩ : U64))
theorem en241 : Enters prog 241 := enters_of func241 (by kernel_rfl) rfl
theorem wk241 {gI : Gh} {wI : World} {x0 : U64}  {r : U64} (h : f241 x0 = some r) : Fn prog 241 #[.int .u64 ((x0).n)] gI wI (fun _ _ v => v = .int .u64 ((r).n)) := by
 unfold f241 at h;refine fnE func241 rfl rfl fun g0 hm hfr => ?_;show E _ 22 none _ _ _ _ _;refine Z5 (Zg (.int .u64 (0)) rfl rfl (Z3 (Z5 (Zn (.int .u64 ((x0).n)) rfl rfl ?_))));obtain ⟨y1, hy1, h⟩ := Z1 h;refine Zx (.int .u64 (y1)) (Je rfl rfl hy1) rfl (Zx (.int .u64 (G9 .and y1 ((71777214294589695 : Int)))) (Kj (by simp) rfl rfl) rfl (Zn (.int .u64 ((x0).n)) rfl rfl (Zx (.int .u64 (G9 .and ((x0).n) ((71777214294589695 : Int)))) (Kj (by simp) rfl rfl) rfl ?_)));obtain ⟨y2, hy2, h⟩ := Z1 h;refine Zx (.int .u64 (y2)) (Xd rfl rfl hy2) rfl (Zx (.int .u64 (G9 .or (G9 .and y1 ((71777214294589695 : Int))) y2)) (Kj (by simp) rfl rfl) rfl (Zg (.int .u64 (G9 .or (G9 .and y1 ((71777214294589695 : Int))) y2)) rfl rfl (Z3 (Z5 (Zn (.int .u64 (G9 .or (G9 .and y1 ((71777214294589695 : Int))) y2)) rfl rfl ?_)))));obtain ⟨y3, hy3, h⟩ := Z1 h;refine Zx (.int .u64 (y3)) (Je rfl rfl hy3) rfl (Zx (.int .u64 (G9 .and y3 ((281470681808895 : Int)))) (Kj (by simp) rfl rfl) rfl (Zn (.int .u64 (G9 .or (G9 .and y1 ((71777214294589695 : Int))) y2)) rfl rfl (Zx (.int .u64 (G9 .and (G9 .or (G9 .and y1 ((71777214294589695 : Int))) y2) ((281470681808895 : Int)))) (Kj (by simp) rfl rfl) rfl ?_)));obtain ⟨y4, n8, h⟩ := Z1 h;refine Zx (.int .u64 (y4)) (Xd rfl rfl n8) rfl (Zx (.int .u64 (G9 .or (G9 .and y3 ((281470681808895 : Int))) y4)) (Kj (by simp) rfl rfl) rfl (Zg (.int .u64 (G9 .or (G9 .and y3 ((281470681808895 : Int))) y4)) rfl rfl (Z3 (Z5 (Zn (.int .u64 (G9 .or (G9 .and y3 ((281470681808895 : Int))) y4)) rfl rfl ?_)))));obtain ⟨y5, hy5, h⟩ := Z1 h;refine Zx (.int .u64 (y5)) (Je rfl rfl hy5) rfl (Zn (.int .u64 (G9 .or (G9 .and y3 ((281470681808895 : Int))) y4)) rfl rfl ?_);obtain ⟨y6, n9, h⟩ := Z1 h;refine Zx (.int .u64 (y6)) (Xd rfl rfl n9) rfl (Zx (.int .u64 (G9 .or y5 y6)) (Kj (by simp) rfl rfl) rfl (Zg (.int .u64 (G9 .or y5 y6)) rfl rfl (Z3 (Z9 ?_))));obtain rfl := sinj h;exact G0 rfl rfl (rq (.int .u64 (G9 .or y5 y6))) ⟨_, hfr, rfl⟩
end Go.Proofs.YtmebkoemfjlbcaaGreatDoor
