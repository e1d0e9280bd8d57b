import Derived.Test.YtmpjooneiaiffaaTypes
import Derived.Test.YtmpjooneiaiffaaKn
import Derived.Test.YtmpjooneiaiffaaMap
import Derived.Test.YtmpjooneiaiffaaProg
set_option maxRecDepth 8000
set_option maxHeartbeats 4000000
namespace Go.Proofs.Ytmpjooneiaiffaa
open Go.RowKit
theorem info_3 : (Try.prog.info? 3).map (fun i => (i.zero, i.size, i.bytes)) = some (some (.int .i64 0), 1, 8) := by kernel_rfl
theorem info_87 : (Try.prog.info? 87).map (fun i => (i.zero, i.size, i.bytes)) = some (some (.agg #[.int .i64 0, .int .i64 0, .int .i64 0, .int .i64 0, .int .i64 0]), 5, 40) := by kernel_rfl
theorem plain_Span : Plain Span := fun _ m' _ w' x _ h => (plain_two plain_int plain_int) _ m' _ w' _ _ h
theorem mixed : Try.prog.follows .mixedOrders = true := by kernel_rfl
theorem plain_BoxShuttle : Plain BoxShuttle := fun _ m' _ w' x _ h => (plain_two plain_int (plain_two plain_int (plain_two plain_int plain_Span))) _ m' _ w' _ _ h
theorem fl_83 : Try.prog.fieldsOf 83 = #[{ name := "Left", type := 3, offset := 0, embedded := false, tag := "", pkgPath := "", byteOffset := 0 }, { name := "Right", type := 3, offset := 1, embedded := false, tag := "", pkgPath := "", byteOffset := 8 }] := by kernel_rfl
theorem seq_83 : SEq (α := BoxPick) Try.prog 83 := by
 intro d x y w a b m wx m2 wy hx hy
 obtain ⟨_, ⟨_, _, rfl, rfl, rfl⟩, rfl⟩ := hx
 obtain ⟨_, ⟨_, _, rfl, rfl, rfl⟩, rfl⟩ := hy
 refine (run_equalIn_struct w (d + 1) 83 _ _ (by kernel_rfl) (by kernel_rfl)).trans ?_
 rw [fl_83]
 obtain ⟨x0, x1⟩ := x
 obtain ⟨y0, y1⟩ := y
 show (Op.eqFields (d + 1) #[.int .i64 (x0), .int .i64 (x1)] #[.int .i64 (y0), .int .i64 (y1)] _).run _ _ = _
 have x0p : (part 3 #[.int .i64 (x0), .int .i64 (x1)] 0).run Try.prog w = .ok (.int .i64 (x0)) w := part_one Try.isAgg3 rfl
 have x1p : (part 3 #[.int .i64 (x0), .int .i64 (x1)] 1).run Try.prog w = .ok (.int .i64 (x1)) w := part_one Try.isAgg3 rfl
 have y0p : (part 3 #[.int .i64 (y0), .int .i64 (y1)] 0).run Try.prog w = .ok (.int .i64 (y0)) w := part_one Try.isAgg3 rfl
 have y1p : (part 3 #[.int .i64 (y0), .int .i64 (y1)] 1).run Try.prog w = .ok (.int .i64 (y1)) w := part_one Try.isAgg3 rfl
 simp only [Op.eqFields, Sem.run_bind, Sem.run_ite, Sem.run_pure, x0p, x1p, y0p, y1p, Result.andThen_ok, run_equalIn_int _ _ _ _ _ _ _ Try.underlying3]
 simp
 grind
theorem eg_83 : Try.prog.eqGuardType Try.prog.depth 83 = false := by kernel_rfl
theorem info_83 : (Try.prog.info? 83).map (fun i => (i.zero, i.size, i.bytes)) = some (some (.agg #[.int .i64 0, .int .i64 0]), 2, 16) := by kernel_rfl
theorem fl_85 : Try.prog.fieldsOf 85 = #[{ name := "Low", type := 3, offset := 0, embedded := false, tag := "", pkgPath := "", byteOffset := 0 }, { name := "High", type := 3, offset := 1, embedded := false, tag := "", pkgPath := "", byteOffset := 8 }] := by kernel_rfl
theorem seq_85 : SEq (α := Span) Try.prog 85 := by
 intro d x y w a b m wx m2 wy hx hy
 obtain ⟨_, ⟨_, _, rfl, rfl, rfl⟩, rfl⟩ := hx
 obtain ⟨_, ⟨_, _, rfl, rfl, rfl⟩, rfl⟩ := hy
 refine (run_equalIn_struct w (d + 1) 85 _ _ (by kernel_rfl) (by kernel_rfl)).trans ?_
 rw [fl_85]
 obtain ⟨x0, x1⟩ := x
 obtain ⟨y0, y1⟩ := y
 show (Op.eqFields (d + 1) #[.int .i64 (x0), .int .i64 (x1)] #[.int .i64 (y0), .int .i64 (y1)] _).run _ _ = _
 have x0p : (part 3 #[.int .i64 (x0), .int .i64 (x1)] 0).run Try.prog w = .ok (.int .i64 (x0)) w := part_one Try.isAgg3 rfl
 have x1p : (part 3 #[.int .i64 (x0), .int .i64 (x1)] 1).run Try.prog w = .ok (.int .i64 (x1)) w := part_one Try.isAgg3 rfl
 have y0p : (part 3 #[.int .i64 (y0), .int .i64 (y1)] 0).run Try.prog w = .ok (.int .i64 (y0)) w := part_one Try.isAgg3 rfl
 have y1p : (part 3 #[.int .i64 (y0), .int .i64 (y1)] 1).run Try.prog w = .ok (.int .i64 (y1)) w := part_one Try.isAgg3 rfl
 simp only [Op.eqFields, Sem.run_bind, Sem.run_ite, Sem.run_pure, x0p, x1p, y0p, y1p, Result.andThen_ok, run_equalIn_int _ _ _ _ _ _ _ Try.underlying3]
 simp
 grind
theorem eg_85 : Try.prog.eqGuardType Try.prog.depth 85 = false := by kernel_rfl
theorem lay_85 : layoutOf Try.prog 85 = some ([.int .i64 0, .int .i64 0], [(0, 1), (1, 1)]) := by kernel_rfl
theorem info_85 : (Try.prog.info? 85).map (fun i => (i.zero, i.size, i.bytes)) = some (some (.agg #[.int .i64 0, .int .i64 0]), 2, 16) := by kernel_rfl
theorem lay_25 : layoutOf Try.prog 25 = some ([.slice none 0 0, .slice none 0 0, .slice none 0 0], [(0, 1), (1, 1), (2, 1)]) := by kernel_rfl
theorem endm_c {P : Program} {e : Env} {ds : List Deferred} {w : World} {fn : Func} {R : Value → World → Prop} {t0 : Tmp} {v0 : Value} {y0 : TypeId} {a0 : Addr} (hres : fn.results = #[.cell t0 y0]) (hd : ds = []) (h0 : e t0 = .pointer (some a0)) (l0 : (loadVar y0 a0).run P w = .ok v0 w) (h : R v0 w) : atEnd P fn R .ret e ds w :=
 ⟨hd, fun tmps ht => ⟨_, by simp [results, hres, ht, asAddr, h0, l0], h⟩⟩
theorem lay_83 : layoutOf Try.prog 83 = some ([.int .i64 0, .int .i64 0], [(0, 1), (1, 1)]) := by kernel_rfl
theorem lay_102 : layoutOf Try.prog 102 = some ([.slice none 0 0, .slice none 0 0, .slice none 0 0], [(0, 3)]) := by kernel_rfl
theorem capf_0_1 {e : Env} {f : FuncId} {o0 : Operand} {b0 : Value} (hb0 : ev e o0 = b0) : (Value.func (.func f) ((#[] : Array Operand).map (ev e)) ((#[o0] : Array Operand).map (ev e))) = .func (.func f) #[] #[b0] := by simp [hb0]
theorem endm_ct {P : Program} {e : Env} {ds : List Deferred} {w : World} {fn : Func} {R : Value → World → Prop} {t0 : Tmp} {v0 : Value} {y0 : TypeId} {a0 : Addr} {t1 : Tmp} {v1 : Value} (hres : fn.results = #[.cell t0 y0, .tmp t1]) (hd : ds = []) (h0 : e t0 = .pointer (some a0)) (l0 : (loadVar y0 a0).run P w = .ok v0 w) (h1 : e t1 = v1) (h : R (.tuple #[v0, v1]) w) : atEnd P fn R .ret e ds w :=
 ⟨hd, fun tmps ht => ⟨_, by simp [results, hres, ht, asAddr, h0, l0, h1], h⟩⟩
theorem capf_0_2 {e : Env} {f : FuncId} {o0 : Operand} {i3 : Operand} {b0 : Value} {b1 : Value} (hb0 : ev e o0 = b0) (hb1 : ev e i3 = b1) : (Value.func (.func f) ((#[] : Array Operand).map (ev e)) ((#[o0, i3] : Array Operand).map (ev e))) = .func (.func f) #[] #[b0, b1] := by simp [hb0, hb1]
theorem key_3 : KeyLaw Try.prog 3 (Value.int .i64) := keyLaw_int Try.underlying3
theorem capf_0_3 {e : Env} {f : FuncId} {o0 : Operand} {i3 : Operand} {u3 : Operand} {b0 : Value} {b1 : Value} {b2 : Value} (hb0 : ev e o0 = b0) (hb1 : ev e i3 = b1) (hb2 : ev e u3 = b2) : (Value.func (.func f) ((#[] : Array Operand).map (ev e)) ((#[o0, i3, u3] : Array Operand).map (ev e))) = .func (.func f) #[] #[b0, b1, b2] := by simp [hb0, hb1, hb2]
theorem endm_ctt {P : Program} {e : Env} {ds : List Deferred} {w : World} {fn : Func} {R : Value → World → Prop} {t0 : Tmp} {v0 : Value} {y0 : TypeId} {a0 : Addr} {t1 : Tmp} {v1 : Value} {t2 : Tmp} {v2 : Value} (hres : fn.results = #[.cell t0 y0, .tmp t1, .tmp t2]) (hd : ds = []) (h0 : e t0 = .pointer (some a0)) (l0 : (loadVar y0 a0).run P w = .ok v0 w) (h1 : e t1 = v1) (h2 : e t2 = v2) (h : R (.tuple #[v0, v1, v2]) w) : atEnd P fn R .ret e ds w :=
 ⟨hd, fun tmps ht => ⟨_, by simp [results, hres, ht, asAddr, h0, l0, h1, h2], h⟩⟩
theorem eqd_85 : EqD Try.prog Span 2 85 := EqD.struct rfl (by kernel_rfl) (by kernel_rfl) (by rw [fl_85]; exact (FEq.cons (by decide) (part_Span_0).1 Try.isAgg3 Try.sizeOf3 (EqD.int Try.underlying3) (FEq.cons (by decide) (part_Span_1).1 Try.isAgg3 Try.sizeOf3 (EqD.int Try.underlying3) FEq.nil))) (fun x y => by cases x; cases y; simp)
theorem fl_87 : Try.prog.fieldsOf 87 = #[{ name := "Colour", type := 3, offset := 0, embedded := false, tag := "", pkgPath := "", byteOffset := 0 }, { name := "Side", type := 3, offset := 1, embedded := false, tag := "", pkgPath := "", byteOffset := 8 }, { name := "Box", type := 3, offset := 2, embedded := false, tag := "", pkgPath := "", byteOffset := 16 }, { name := "Yarn", type := 85, offset := 3, embedded := false, tag := "", pkgPath := "", byteOffset := 24 }] := by kernel_rfl
theorem eqd_87 : EqD Try.prog BoxShuttle 3 87 := EqD.struct rfl (by kernel_rfl) (by kernel_rfl) (by rw [fl_87]; exact (FEq.cons (by decide) (part_BoxShuttle_0).1 Try.isAgg3 Try.sizeOf3 ((EqD.int Try.underlying3).up (by decide)) (FEq.cons (by decide) (part_BoxShuttle_1).1 Try.isAgg3 Try.sizeOf3 ((EqD.int Try.underlying3).up (by decide)) (FEq.cons (by decide) (part_BoxShuttle_2).1 Try.isAgg3 Try.sizeOf3 ((EqD.int Try.underlying3).up (by decide)) (FEq.cons (by decide) (part_BoxShuttle_3).1 Try.isAgg85 Try.sizeOf85 eqd_85 FEq.nil))))) (fun x y => by cases x; cases y; simp)
theorem eg_87 : Try.prog.eqGuardType Try.prog.depth 87 = false := by kernel_rfl
theorem lay_58 : layoutOf Try.prog 58 = some ([.slice none 0 0, .slice none 0 0, .slice none 0 0, .slice none 0 0, .int .i64 0], [(0, 1), (1, 3), (4, 1)]) := by kernel_rfl
theorem layA_138 : ((Try.prog.info? 138).bind (·.zero)).map (·.cells.toList) = some [.int .i64 0, .int .i64 0] := by kernel_rfl
theorem szA_3 : (Try.prog.info? 3).map (·.size) = some 1 := by kernel_rfl
theorem endm_cttt {P : Program} {e : Env} {ds : List Deferred} {w : World} {fn : Func} {R : Value → World → Prop} {t0 : Tmp} {v0 : Value} {y0 : TypeId} {a0 : Addr} {t1 : Tmp} {v1 : Value} {t2 : Tmp} {v2 : Value} {t3 : Tmp} {v3 : Value} (hres : fn.results = #[.cell t0 y0, .tmp t1, .tmp t2, .tmp t3]) (hd : ds = []) (h0 : e t0 = .pointer (some a0)) (l0 : (loadVar y0 a0).run P w = .ok v0 w) (h1 : e t1 = v1) (h2 : e t2 = v2) (h3 : e t3 = v3) (h : R (.tuple #[v0, v1, v2, v3]) w) : atEnd P fn R .ret e ds w :=
 ⟨hd, fun tmps ht => ⟨_, by simp [results, hres, ht, asAddr, h0, l0, h1, h2, h3], h⟩⟩
@[reducible] def ow_BoxLoom : Ow BoxLoom := Ow.struct (fun (x : BoxLoom) => (x.Boxes, x.At, x.Shuttles)) (Ow.pair (Ow.list 3 (Ow.sh Int)) (Ow.pair (Ow.list 3 (Ow.sh Int)) (Ow.list 87 (Ow.sh BoxShuttle))))
theorem fl_BoxLoom_2 : Fl ow_BoxLoom (Ow.list 87 (Ow.sh BoxShuttle)) 2 (fun (x : BoxLoom) y => { x with Shuttles := y }) (fun (q : (ow_BoxLoom).S) (r : ((Ow.list 87 (Ow.sh BoxShuttle))).S) => (Prod.fst q, (Prod.fst (Prod.snd q), r))) := Fl.of _ (Fl.comp Prod.snd Prod.snd (Fl.snd _ _) (Fl.comp Prod.snd Prod.snd (Fl.snd _ _) (Fl.id_ _) rfl) rfl) (fun _ _ => rfl)
theorem fl_BoxShuttle_1 : Fl (Ow.sh BoxShuttle) (Ow.sh Int) 1 (fun (x : BoxShuttle) y => { x with Side := y }) (fun q _ => q) := Fl.shd part_BoxShuttle_1 (fun _ _ => rfl) (fun _ _ _ => rfl)
theorem fl_BoxShuttle_2 : Fl (Ow.sh BoxShuttle) (Ow.sh Int) 2 (fun (x : BoxShuttle) y => { x with Box := y }) (fun q _ => q) := Fl.shd part_BoxShuttle_2 (fun _ _ => rfl) (fun _ _ _ => rfl)
theorem fl_BoxLoom_1 : Fl ow_BoxLoom (Ow.list 3 (Ow.sh Int)) 1 (fun (x : BoxLoom) y => { x with At := y }) (fun (q : (ow_BoxLoom).S) (r : ((Ow.list 3 (Ow.sh Int))).S) => (Prod.fst q, (r, Prod.snd (Prod.snd q)))) := Fl.of _ (Fl.comp Prod.snd Prod.snd (Fl.snd _ _) (Fl.fst _ _) rfl) (fun _ _ => rfl)
theorem lay_129 : layoutOf Try.prog 129 = some ([.slice none 0 0, .int .i64 0, .int .i64 0, .int .i64 0, .int .i64 0, .int .i64 0, .int .i64 0, .int .i64 0, .int .i64 0, .int .i64 0, .int .i64 0, .int .i64 0], [(0, 1), (1, 10), (11, 1)]) := by kernel_rfl
theorem tup4_0 {b0 b1 b2 b3 : Value} {B0 : Value → Prop} {B1 : Value → Prop} {B2 : Value → Prop} {B3 : Value → Prop} (h : ∃ c0 c1 c2 c3 : Value, Value.tuple #[b0, b1, b2, b3] = .tuple #[c0, c1, c2, c3] ∧ B0 c0 ∧ B1 c1 ∧ B2 c2 ∧ B3 c3) : B0 b0 := by
 obtain ⟨c0, c1, c2, c3, he, h0, h1, h2, h3⟩ := h; simp at he; obtain ⟨rfl, rfl, rfl, rfl⟩ := he; exact h0
theorem pl_138 : Pl (Vector Int 2) := Pl.array Pl.int
theorem eqd_138 : EqD Try.prog (Vector Int 2) 2 138 := EqD.array Try.underlying138 info_3 (by kernel_rfl) Try.isAgg3 Try.sizeOf3 (EqD.int Try.underlying3)
theorem ckd_138 : CkD Try.prog (Vector Int 2) 2 138 := CkD.array Try.underlying138 info_3 (by kernel_rfl) Try.isAgg3 Try.sizeOf3 (CkD.int Try.underlying3)
theorem key_138 : KeyLaw Try.prog 138 (encK pl_138) := keyLaw_pl pl_138 (by rw [Try.underlying138]) rfl eqd_138 ckd_138 (by decide)
theorem endm_cctt {P : Program} {e : Env} {ds : List Deferred} {w : World} {fn : Func} {R : Value → World → Prop} {t0 : Tmp} {v0 : Value} {y0 : TypeId} {a0 : Addr} {t1 : Tmp} {v1 : Value} {y1 : TypeId} {a1 : Addr} {t2 : Tmp} {v2 : Value} {t3 : Tmp} {v3 : Value} (hres : fn.results = #[.cell t0 y0, .cell t1 y1, .tmp t2, .tmp t3]) (hd : ds = []) (h0 : e t0 = .pointer (some a0)) (l0 : (loadVar y0 a0).run P w = .ok v0 w) (h1 : e t1 = .pointer (some a1)) (l1 : (loadVar y1 a1).run P w = .ok v1 w) (h2 : e t2 = v2) (h3 : e t3 = v3) (h : R (.tuple #[v0, v1, v2, v3]) w) : atEnd P fn R .ret e ds w :=
 ⟨hd, fun tmps ht => ⟨_, by simp [results, hres, ht, asAddr, h0, l0, h1, l1, h2, h3], h⟩⟩
def f14 : Option Bool := some true
theorem en14 : Enters Try.prog 14 := enters_of Try.func14 (by kernel_rfl) rfl
theorem wk14 {gI : Gh} {wI : World} {r : Bool} (h : f14 = some r) : Fn Try.prog 14 #[] gI wI (fun _ _ v => v = .bool (r)) := by
 injection h with h
 subst h
 exact wkK14
def f13 (x0 : BoxLoom) : Option (Bool) :=
 Option.bind (α := Bool) (
  bif (decide ((((x0).Boxes).length : Int) > (10 : Int))) then
   some (true)
  else
   bif (decide ((((x0).At).length : Int) > (10 : Int))) then
    some (true)
   else
    some ((decide ((((x0).Shuttles).length : Int) > (10 : Int))))
  ) fun u3 =>
 some (u3)
theorem en13 : Enters Try.prog 13 := enters_of Try.func13 (by kernel_rfl) rfl
theorem wk13 {gI : Gh} {wI : World} {x0 : BoxLoom} {up0 : Value} (rp0 : RV gI.m wI x0 up0) {r : Bool} (h : f13 x0 = some r) : Fn Try.prog 13 #[up0] gI wI (fun _ _ v => v = .bool (r)) := by
 unfold f13 at h
 refine fn_of_E Try.func13 rfl (Nat.le_of_ble_eq_true rfl) fun g0 hm hfr => ?_
 have rp0 : RV g0.m wI x0 up0 := hm ▸ rp0
 show E _ 19 none _ _ _ _ _
 refine E_seq (E_region (EL_do .plain rfl (D_box (g := g0) rfl rp0 fun g1 w1 p1 hs q1 => ?_)))
 have hfr := hfr.ext hs
 refine EL_at (.bool false) rfl rfl ?_
 refine EL_nil (thn_n ?_)
 obtain ⟨u3, hx, h⟩ := bsome h
 refine E_join (fun e w => ∃ (g : Gh) , Fr gI wI g w ∧ e 2 = .bool (u3)) (fun Q' hQ => ?_) (fun x6 y6 hR => ?_)
 ·replace h := hx
  clear hx
  refine E_region (EL_p (fPtr p1 0) (P_fieldAddr at_25_0 rfl (PT.ptr q1)) rfl ?_)
  have l5 := PT_field (part_BoxLoom_0).1 q1
  refine EL_do .plain rfl (D_load (g := g1) Try.isAgg22 Try.sizeOf22 rfl l5 fun a7 t5 => ?_)
  refine EL_p (.int .i64 (((x0).Boxes).length : Int)) (P_len Try.underlying22 rfl t5) rfl ?_
  refine EL_p (.bool ((decide ((((x0).Boxes).length : Int) > (10 : Int))))) (P_int rfl rfl rfl) rfl ?_
  refine EL_p (.bool ((decide ((((x0).Boxes).length : Int) > (10 : Int))))) (P_move rfl) rfl ?_
  rcases csome h with ⟨o0, h⟩ | ⟨o0, h⟩
  ·refine EL_s rfl rfl o0 rfl rfl ?_
   iterate 3 refine EL_s rfl rfl o0 rfl rfl ?_
   refine EL_p (.bool true) (P_pick (b := (decide ((((x0).Boxes).length : Int) > (10 : Int)))) rfl (pick_t o0 rfl)) rfl ?_
   refine EL_dead 6 rfl ?_
   refine EL_at (.bool true) rfl rfl ?_
   refine EL_nil ?_
   obtain rfl := sinj h
   exact hQ _ _ ⟨g1, hfr, rfl⟩
  ·refine EL_y (fPtr p1 1) (P_fieldAddr at_25_1 rfl (PT.ptr q1)) rfl rfl o0 rfl ?_
   have x5 := PT_field (part_BoxLoom_1).1 q1
   refine EL_do (.yes2 rfl rfl o0) rfl (D_load (g := g1) Try.isAgg22 Try.sizeOf22 rfl x5 fun d7 i6 => ?_)
   refine EL_y (.int .i64 (((x0).At).length : Int)) (P_len Try.underlying22 rfl i6) rfl rfl o0 rfl ?_
   refine EL_y (.bool ((decide ((((x0).At).length : Int) > (10 : Int))))) (P_int rfl rfl rfl) rfl rfl o0 rfl ?_
   refine EL_p (.bool ((decide ((((x0).At).length : Int) > (10 : Int))))) (P_pick (b := (decide ((((x0).Boxes).length : Int) > (10 : Int)))) rfl (pick_f o0 rfl)) rfl ?_
   refine EL_p (.bool ((decide ((((x0).At).length : Int) > (10 : Int))))) (P_move rfl) rfl ?_
   rcases csome h with ⟨i3, h⟩ | ⟨i3, h⟩
   ·refine EL_s rfl rfl i3 rfl rfl ?_
    iterate 3 refine EL_s rfl rfl i3 rfl rfl ?_
    refine EL_p (.bool true) (P_pick (b := (decide ((((x0).At).length : Int) > (10 : Int)))) rfl (pick_t i3 rfl)) rfl ?_
    refine EL_at (.bool true) rfl rfl ?_
    refine EL_nil ?_
    obtain rfl := sinj h
    exact hQ _ _ ⟨g1, hfr, rfl⟩
   ·refine EL_y (fPtr p1 2) (P_fieldAddr at_25_2 rfl (PT.ptr q1)) rfl rfl i3 rfl ?_
    have j6 := PT_field (part_BoxLoom_2).1 q1
    refine EL_do (.yes2 rfl rfl i3) rfl (D_load (g := g1) Try.isAgg23 Try.sizeOf23 rfl j6 fun i7 v6 => ?_)
    refine EL_y (.int .i64 (((x0).Shuttles).length : Int)) (P_len Try.underlying23 rfl v6) rfl rfl i3 rfl ?_
    refine EL_y (.bool ((decide ((((x0).Shuttles).length : Int) > (10 : Int))))) (P_int rfl rfl rfl) rfl rfl i3 rfl ?_
    refine EL_p (.bool ((decide ((((x0).Shuttles).length : Int) > (10 : Int))))) (P_pick (b := (decide ((((x0).At).length : Int) > (10 : Int)))) rfl (pick_f i3 rfl)) rfl ?_
    refine EL_p (.bool ((decide ((((x0).Shuttles).length : Int) > (10 : Int))))) (P_assign rfl) rfl ?_
    refine EL_nil ?_
    obtain rfl := sinj h
    exact hQ _ _ ⟨g1, hfr, rfl⟩
 ·clear hx
  obtain ⟨j7, hfr, i5⟩ := hR
  refine E_ret ?_
  obtain rfl := sinj h
  exact end1 rfl rfl (show _ = .bool (u3) from i5) ⟨_, hfr, rfl⟩
def f19 (x0 : List Int) (x1 : List Int) : Option (Bool) :=
 jn (σ := Unit) (fun _ =>
  jn (σ := Unit) (fun _ =>
   some (true)
   ) fun k53 =>
  lp (σ := Int) (fun k54 o0 =>
   jn (σ := Unit) (fun _ =>
    jn (σ := Unit) (fun _ =>
     k54 ((w64 (o0 + (1 : Int))))
     ) fun m8 =>
    (idx x0 o0).bind fun x5 =>
    (idx x1 o0).bind fun i6 =>
    bif (x5 != i6) then
     some (false)
    else
     m8 ()
    ) fun k57 =>
   bif (decide (o0 < ((x0).length : Int))) then
    k57 ()
   else
    k53 ()
   ) big ((0 : Int))
  ) fun k2 =>
 bif (((x0).length : Int) != ((x1).length : Int)) then
  some (false)
 else
  k2 ()
theorem en19 : Enters Try.prog 19 := enters_of Try.func19 (by kernel_rfl) rfl
theorem wk19 {gI : Gh} {wI : World} {x0 : List Int} {x1 : List Int} {up0 : Value} (rp0 : RV gI.m wI x0 up0) {up1 : Value} (rp1 : RV gI.m wI x1 up1) {r : Bool} (h : f19 x0 x1 = some r) : Fn Try.prog 19 #[up0, up1] gI wI (fun _ _ v => v = .bool (r)) := by
 unfold f19 at h
 refine fn_of_E Try.func19 rfl (Nat.le_of_ble_eq_true rfl) fun g0 hm hfr => ?_
 have rp0 : RV g0.m wI x0 up0 := hm ▸ rp0
 have rp1 : RV g0.m wI x1 up1 := hm ▸ rp1
 show E _ 26 none _ _ _ _ _
 refine E_seq (E_region (EL_at (.bool false) rfl rfl ?_))
 refine EL_nil (thn_n (E_joinC h (fun (s : Unit) e w => ∃ (g : Gh) , Fr gI wI g w ∧ e 0 = up0 ∧ RV g.m w (x0 : List Int) up0 ∧ e 1 = up1 ∧ RV g.m w (x1 : List Int) up1) (fun X2 k2 hk2 h => ?_) ?_))
 ·refine E_seq (E_region (EL_mw up0 rfl rfl ?_))
  refine EL_p (.int .i64 ((x0).length : Int)) (P_len Try.underlying22 rfl rp0) rfl ?_
  refine EL_mw up1 rfl rfl ?_
  refine EL_p (.int .i64 ((x1).length : Int)) (P_len Try.underlying22 rfl rp1) rfl ?_
  refine EL_in (.bool ((((x0).length : Int) != ((x1).length : Int)))) rfl rfl rfl rfl ?_
  refine EL_nil (thn_n ?_)
  rcases csome h with ⟨hc3, h⟩ | ⟨hc3, h⟩
  ·refine E_ct hc3 rfl ?_
   refine E_seq (E_region (EL_at (.bool false) rfl rfl ?_))
   refine EL_nil (thn_n (E_ret (thn_r ?_)))
   obtain rfl := sinj h
   exact end1 rfl rfl (show _ = .bool false from rfl) ⟨_, hfr, rfl⟩
  ·refine E_cf hc3 rfl ?_
   exact E_skip (thn_n (hk2 () _ _ ⟨g0, hfr, rfl, rp0, rfl, rp1⟩ h))
 ·rintro _ iB w4 ⟨g4, hfr, q8, r8, t8, v8⟩ h
  refine E_joinC h (fun (s : Unit) e w => ∃ (g : Gh) , Fr gI wI g w) (fun X53 k53 x8 h => ?_) ?_
  ·refine E_seq (E_region (EL_at (.int .i64 (0)) rfl rfl ?_))
   refine EL_nil (thn_n (E_block ?_))
   refine E_lp h (fun (s : Int) e w => ∃ (g : Gh) , Fr gI wI g w ∧ e 0 = up0 ∧ RV g.m w (x0 : List Int) up0 ∧ e 1 = up1 ∧ RV g.m w (x1 : List Int) up1 ∧ e 5 = .int .i64 (s)) ⟨g4, hfr, q8, r8, t8, v8, rfl⟩ (fun X54 k54 a9 => ?_)
   rintro o0 qA jB ⟨n8, hfr, j6, v6, k8, l8, x6⟩ h
   refine E_joinC h (fun (s : Unit) e w => ∃ (g : Gh) , Fr gI wI g w ∧ e 0 = up0 ∧ RV g.m w (x0 : List Int) up0 ∧ e 1 = up1 ∧ RV g.m w (x1 : List Int) up1 ∧ e 5 = .int .i64 (o0)) (fun X57 k57 d9 h => ?_) ?_
   ·refine E_seq (E_region (EL_mv x6 rfl ?_))
    refine EL_mv j6 rfl ?_
    refine EL_p (.int .i64 ((x0).length : Int)) (P_len Try.underlying22 rfl v6) rfl ?_
    refine EL_in (.bool ((decide (o0 < ((x0).length : Int))))) rfl rfl rfl rfl ?_
    refine EL_nil (thn_n ?_)
    rcases csome h with ⟨t5, h⟩ | ⟨t5, h⟩
    ·refine E_ct t5 rfl ?_
     exact E_skip (thn_n (d9 () _ _ ⟨n8, hfr, j6, v6, k8, l8, x6⟩ h))
    ·refine E_cf t5 rfl ?_
     refine E_exit ?_
     refine thn_e ?_
     refine thn_e ?_
     refine blk_hit ?_
     exact thn_n (x8 () _ _ ⟨n8, hfr⟩ h)
   ·rintro _ rA lB ⟨y9, hfr, y6, i3, a7, u3, i5⟩ h
    refine E_joinC h (fun (s : Unit) e w => ∃ (g : Gh) , Fr gI wI g w ∧ e 0 = up0 ∧ RV g.m w (x0 : List Int) up0 ∧ e 1 = up1 ∧ RV g.m w (x1 : List Int) up1 ∧ e 5 = .int .i64 (o0)) (fun X81 m8 k9 h => ?_) ?_
    ·refine E_block ?_
     refine E_seq ?_
     obtain ⟨x5, d7, h⟩ := bsome h
     have z9 := PT_idx i3 d7
     refine L_load (x := .tmp 19) Try.isAgg3 Try.sizeOf3 z9 fun mB bA l9 => ?_
     obtain rfl := RV_int.1 bA
     obtain ⟨i6, i7, h⟩ := bsome h
     have gA := PT_idx u3 i7
     refine L_load (x := .tmp 23) Try.isAgg3 Try.sizeOf3 gA fun nB iA n9 => ?_
     obtain rfl := RV_int.1 iA
     refine E_drawL (g := y9) (n := 9) [] [0, 1, 2, 3, 4, 5, 6, 7, 8] rfl mixed (by kernel_rfl) trivial ?_
     refine L_p up0 rfl rfl (P_move y6) ?_
     refine L_p (.int .i64 (o0)) rfl rfl (P_move i5) ?_
     refine L_p (ePtr up0 o0 1) rfl rfl (P_indexAddr (α := Int) Try.underlying22 Try.sizeOf3 rfl i3 rfl d7) ?_
     refine L_ld (c := .int .i64 (x5)) rfl rfl .plain (fun _ _ h => h.ch) l9 rfl ?_
     refine L_p up1 rfl rfl (P_move a7) ?_
     refine L_p (.int .i64 (o0)) rfl rfl (P_move i5) ?_
     refine L_p (ePtr up1 o0 1) rfl rfl (P_indexAddr (α := Int) Try.underlying22 Try.sizeOf3 rfl u3 rfl i7) ?_
     refine L_ld (c := .int .i64 (i6)) rfl rfl .plain (fun _ _ h => h.ch) n9 rfl ?_
     refine L_p (.bool ((x5 != i6))) rfl rfl (P_int rfl rfl rfl) ?_
     refine L_nl fun jA oB hs => ?_
     have hfr := hfr.ext hs
     have i3 := i3.ext hs
     have u3 := u3.ext hs
     clear hs
     refine EL_nil (thn_n ?_)
     rcases csome h with ⟨l5, h⟩ | ⟨l5, h⟩
     ·refine E_ct l5 rfl ?_
      refine E_seq (E_region (EL_at (.bool false) rfl rfl ?_))
      refine EL_nil (thn_n (E_ret (blk_r ?_)))
      refine thn_r ?_
      refine thn_r ?_
      refine blk_r ?_
      refine thn_r ?_
      obtain rfl := sinj h
      exact end1 rfl rfl (show _ = .bool false from rfl) ⟨_, hfr, rfl⟩
     ·refine E_cf l5 rfl ?_
      exact E_skip (blk_n (thn_n (k9 () _ _ ⟨jA, hfr, y6, i3, a7, u3, i5⟩ h)))
    ·rintro _ mA yA ⟨u9, hfr, j7, m7, v7, g8, i8⟩ h
     refine E_region (EL_mv i8 rfl ?_)
     refine EL_in (.int .i64 ((w64 (o0 + (1 : Int))))) rfl rfl rfl rfl ?_
     refine EL_at (.int .i64 ((w64 (o0 + (1 : Int))))) rfl rfl ?_
     exact EL_nil (thn_n (a9 ((w64 (o0 + (1 : Int)))) _ _ ⟨u9, hfr, j7, m7, v7, g8, rfl⟩ h))
  ·rintro _ pA aB ⟨dB, hfr⟩ h
   refine E_seq (E_region (EL_at (.bool true) rfl rfl ?_))
   refine EL_nil (thn_n (E_ret ?_))
   obtain rfl := sinj h
   exact end1 rfl rfl (show _ = .bool true from rfl) ⟨_, hfr, rfl⟩
def f23 (x0 : List BoxPick) (x1 : List BoxPick) : Option (Bool) :=
 jn (σ := Unit) (fun _ =>
  jn (σ := Unit) (fun _ =>
   some (true)
   ) fun k53 =>
  lp (σ := Int) (fun k54 o0 =>
   jn (σ := Unit) (fun _ =>
    jn (σ := Unit) (fun _ =>
     k54 ((w64 (o0 + (1 : Int))))
     ) fun m8 =>
    (idx x0 o0).bind fun y6 =>
    (idx x1 o0).bind fun a7 =>
    bif (!(decide (y6 = a7))) then
     some (false)
    else
     m8 ()
    ) fun k57 =>
   bif (decide (o0 < ((x0).length : Int))) then
    k57 ()
   else
    k53 ()
   ) big ((0 : Int))
  ) fun k2 =>
 bif (((x0).length : Int) != ((x1).length : Int)) then
  some (false)
 else
  k2 ()
theorem en23 : Enters Try.prog 23 := enters_of Try.func23 (by kernel_rfl) rfl
theorem wk23 {gI : Gh} {wI : World} {x0 : List BoxPick} {x1 : List BoxPick} {up0 : Value} (rp0 : RV gI.m wI x0 up0) {up1 : Value} (rp1 : RV gI.m wI x1 up1) {r : Bool} (h : f23 x0 x1 = some r) : Fn Try.prog 23 #[up0, up1] gI wI (fun _ _ v => v = .bool (r)) := by
 unfold f23 at h
 refine fn_of_E Try.func23 rfl (Nat.le_of_ble_eq_true rfl) fun g0 hm hfr => ?_
 have rp0 : RV g0.m wI x0 up0 := hm ▸ rp0
 have rp1 : RV g0.m wI x1 up1 := hm ▸ rp1
 show E _ 26 none _ _ _ _ _
 refine E_seq (E_region (EL_at (.bool false) rfl rfl ?_))
 refine EL_nil (thn_n (E_joinC h (fun (s : Unit) e w => ∃ (g : Gh) , Fr gI wI g w ∧ e 0 = up0 ∧ RV g.m w (x0 : List BoxPick) up0 ∧ e 1 = up1 ∧ RV g.m w (x1 : List BoxPick) up1) (fun X2 k2 hk2 h => ?_) ?_))
 ·refine E_seq (E_region (EL_mw up0 rfl rfl ?_))
  refine EL_p (.int .i64 ((x0).length : Int)) (P_len Try.underlying30 rfl rp0) rfl ?_
  refine EL_mw up1 rfl rfl ?_
  refine EL_p (.int .i64 ((x1).length : Int)) (P_len Try.underlying30 rfl rp1) rfl ?_
  refine EL_in (.bool ((((x0).length : Int) != ((x1).length : Int)))) rfl rfl rfl rfl ?_
  refine EL_nil (thn_n ?_)
  rcases csome h with ⟨hc3, h⟩ | ⟨hc3, h⟩
  ·refine E_ct hc3 rfl ?_
   refine E_seq (E_region (EL_at (.bool false) rfl rfl ?_))
   refine EL_nil (thn_n (E_ret (thn_r ?_)))
   obtain rfl := sinj h
   exact end1 rfl rfl (show _ = .bool false from rfl) ⟨_, hfr, rfl⟩
  ·refine E_cf hc3 rfl ?_
   exact E_skip (thn_n (hk2 () _ _ ⟨g0, hfr, rfl, rp0, rfl, rp1⟩ h))
 ·rintro _ lB w4 ⟨g4, hfr, q8, r8, t8, v8⟩ h
  refine E_joinC h (fun (s : Unit) e w => ∃ (g : Gh) , Fr gI wI g w) (fun X53 k53 x8 h => ?_) ?_
  ·refine E_seq (E_region (EL_at (.int .i64 (0)) rfl rfl ?_))
   refine EL_nil (thn_n (E_block ?_))
   refine E_lp h (fun (s : Int) e w => ∃ (g : Gh) , Fr gI wI g w ∧ e 0 = up0 ∧ RV g.m w (x0 : List BoxPick) up0 ∧ e 1 = up1 ∧ RV g.m w (x1 : List BoxPick) up1 ∧ e 5 = .int .i64 (s)) ⟨g4, hfr, q8, r8, t8, v8, rfl⟩ (fun X54 k54 a9 => ?_)
   rintro o0 yA mB ⟨n8, hfr, x5, i6, k8, l8, j6⟩ h
   refine E_joinC h (fun (s : Unit) e w => ∃ (g : Gh) , Fr gI wI g w ∧ e 0 = up0 ∧ RV g.m w (x0 : List BoxPick) up0 ∧ e 1 = up1 ∧ RV g.m w (x1 : List BoxPick) up1 ∧ e 5 = .int .i64 (o0)) (fun X57 k57 d9 h => ?_) ?_
   ·refine E_seq (E_region (EL_mv j6 rfl ?_))
    refine EL_mv x5 rfl ?_
    refine EL_p (.int .i64 ((x0).length : Int)) (P_len Try.underlying30 rfl i6) rfl ?_
    refine EL_in (.bool ((decide (o0 < ((x0).length : Int))))) rfl rfl rfl rfl ?_
    refine EL_nil (thn_n ?_)
    rcases csome h with ⟨t5, h⟩ | ⟨t5, h⟩
    ·refine E_ct t5 rfl ?_
     exact E_skip (thn_n (d9 () _ _ ⟨n8, hfr, x5, i6, k8, l8, j6⟩ h))
    ·refine E_cf t5 rfl ?_
     refine E_exit ?_
     refine thn_e ?_
     refine thn_e ?_
     refine blk_hit ?_
     exact thn_n (x8 () _ _ ⟨n8, hfr⟩ h)
   ·rintro _ aB nB ⟨y9, hfr, v6, i3, x6, u3, i5⟩ h
    refine E_joinC h (fun (s : Unit) e w => ∃ (g : Gh) , Fr gI wI g w ∧ e 0 = up0 ∧ RV g.m w (x0 : List BoxPick) up0 ∧ e 1 = up1 ∧ RV g.m w (x1 : List BoxPick) up1 ∧ e 5 = .int .i64 (o0)) (fun X81 m8 k9 h => ?_) ?_
    ·refine E_block ?_
     refine E_seq ?_
     obtain ⟨y6, d7, h⟩ := bsome h
     have z9 := PT_idx i3 d7
     refine L_load (x := .tmp 19) Try.isAgg83 Try.sizeOf83 z9 fun bA gA l9 => ?_
     obtain ⟨a7, i7, h⟩ := bsome h
     have iA := PT_idx u3 i7
     refine L_load (x := .tmp 23) Try.isAgg83 Try.sizeOf83 iA fun jA mA n9 => ?_
     refine E_drawL (g := y9) (n := 9) [] [0, 1, 2, 3, 4, 5, 6, 7, 8] rfl mixed (by kernel_rfl) trivial ?_
     refine L_p up0 rfl rfl (P_move v6) ?_
     refine L_p (.int .i64 (o0)) rfl rfl (P_move i5) ?_
     refine L_p (ePtr up0 o0 2) rfl rfl (P_indexAddr (α := BoxPick) Try.underlying30 Try.sizeOf83 rfl i3 rfl d7) ?_
     refine L_ld (c := bA) rfl rfl .plain (fun _ _ h => h.ch) l9 rfl ?_
     refine L_p up1 rfl rfl (P_move x6) ?_
     refine L_p (.int .i64 (o0)) rfl rfl (P_move i5) ?_
     refine L_p (ePtr up1 o0 2) rfl rfl (P_indexAddr (α := BoxPick) Try.underlying30 Try.sizeOf83 rfl u3 rfl i7) ?_
     refine L_ld (c := jA) rfl rfl .plain (fun _ _ h => h.ch) n9 rfl ?_
     refine L_p (.bool ((!(decide (y6 = a7))))) rfl rfl (P_sne seq_83 rfl eg_83 rfl rfl gA mA) ?_
     refine L_nl fun pA oB hs => ?_
     have hfr := hfr.ext hs
     have i3 := i3.ext hs
     have u3 := u3.ext hs
     clear hs
     refine EL_nil (thn_n ?_)
     rcases csome h with ⟨l5, h⟩ | ⟨l5, h⟩
     ·refine E_ct l5 rfl ?_
      refine E_seq (E_region (EL_at (.bool false) rfl rfl ?_))
      refine EL_nil (thn_n (E_ret (blk_r ?_)))
      refine thn_r ?_
      refine thn_r ?_
      refine blk_r ?_
      refine thn_r ?_
      obtain rfl := sinj h
      exact end1 rfl rfl (show _ = .bool false from rfl) ⟨_, hfr, rfl⟩
     ·refine E_cf l5 rfl ?_
      exact E_skip (blk_n (thn_n (k9 () _ _ ⟨pA, hfr, v6, i3, x6, u3, i5⟩ h)))
    ·rintro _ qA dB ⟨u9, hfr, j7, m7, v7, g8, i8⟩ h
     refine E_region (EL_mv i8 rfl ?_)
     refine EL_in (.int .i64 ((w64 (o0 + (1 : Int))))) rfl rfl rfl rfl ?_
     refine EL_at (.int .i64 ((w64 (o0 + (1 : Int))))) rfl rfl ?_
     exact EL_nil (thn_n (a9 ((w64 (o0 + (1 : Int)))) _ _ ⟨u9, hfr, j7, m7, v7, g8, rfl⟩ h))
  ·rintro _ rA iB ⟨jB, hfr⟩ h
   refine E_seq (E_region (EL_at (.bool true) rfl rfl ?_))
   refine EL_nil (thn_n (E_ret ?_))
   obtain rfl := sinj h
   exact end1 rfl rfl (show _ = .bool true from rfl) ⟨_, hfr, rfl⟩
def f28 (x0 : List BoxPick) : Option ((List BoxPick)) :=
 (apnd 16 (([] : List BoxPick)) x0).bind fun y3 =>
 some (y3)
theorem en28 : Enters Try.prog 28 := enters_of Try.func28 (by kernel_rfl) rfl
theorem wk28 {gI : Gh} {wI : World} {x0 : List BoxPick} {up0 : Value} (rp0 : RV gI.m wI x0 up0) {r : (List BoxPick)} (h : f28 x0 = some r) : Fn Try.prog 28 #[up0] gI wI (fun m w v => RV m w (r) v) := by
 unfold f28 at h
 refine fn_of_E Try.func28 rfl (Nat.le_of_ble_eq_true rfl) fun g0 hm hfr => ?_
 have rp0 : RV g0.m wI x0 up0 := hm ▸ rp0
 show E _ 6 none _ _ _ _ _
 refine E_seq (E_region (EL_at (.slice none 0 0) rfl rfl ?_))
 refine EL_nil (thn_n (E_seq (E_region (EL_do .plain rfl (D_buildSlice (g := g0) 3003 (xs := ([] : List BoxPick)) (vs := []) Try.underlying30 Try.sizeOf83 Try.zeroValue83 rfl rfl .nil RVs.nil rfl rfl fun g1 w1 v1 hs o1 r1 hxt hfl => ?_)))))
 have hfr := hfr.stp hs
 have rp0 := rp0.stp hs
 refine EL_mw up0 rfl rfl ?_
 obtain ⟨y3, hy3, h⟩ := bsome h
 refine EL_do .plain rfl (D_append (g := g1) (i := 3003) Try.underlying30 info_83 rfl rfl o1 r1 rfl rp0 hy3 fun g2 w2 v2 hs o2 r2 _ => ?_)
 have hfr := hfr.stp hs
 refine EL_at v2 rfl rfl ?_
 refine EL_nil (thn_n (E_ret ?_))
 obtain rfl := sinj h
 exact end1 rfl rfl (show _ = v2 from rfl) ⟨_, hfr, r2⟩
def f33 (x0 : List Span) (x1 : List Span) : Option (Bool) :=
 jn (σ := Unit) (fun _ =>
  jn (σ := Unit) (fun _ =>
   some (true)
   ) fun k53 =>
  lp (σ := Int) (fun k54 o0 =>
   jn (σ := Unit) (fun _ =>
    jn (σ := Unit) (fun _ =>
     k54 ((w64 (o0 + (1 : Int))))
     ) fun m8 =>
    (idx x0 o0).bind fun y6 =>
    (idx x1 o0).bind fun a7 =>
    bif (!(decide (y6 = a7))) then
     some (false)
    else
     m8 ()
    ) fun k57 =>
   bif (decide (o0 < ((x0).length : Int))) then
    k57 ()
   else
    k53 ()
   ) big ((0 : Int))
  ) fun k2 =>
 bif (((x0).length : Int) != ((x1).length : Int)) then
  some (false)
 else
  k2 ()
theorem en33 : Enters Try.prog 33 := enters_of Try.func33 (by kernel_rfl) rfl
theorem wk33 {gI : Gh} {wI : World} {x0 : List Span} {x1 : List Span} {up0 : Value} (rp0 : RV gI.m wI x0 up0) {up1 : Value} (rp1 : RV gI.m wI x1 up1) {r : Bool} (h : f33 x0 x1 = some r) : Fn Try.prog 33 #[up0, up1] gI wI (fun _ _ v => v = .bool (r)) := by
 unfold f33 at h
 refine fn_of_E Try.func33 rfl (Nat.le_of_ble_eq_true rfl) fun g0 hm hfr => ?_
 have rp0 : RV g0.m wI x0 up0 := hm ▸ rp0
 have rp1 : RV g0.m wI x1 up1 := hm ▸ rp1
 show E _ 26 none _ _ _ _ _
 refine E_seq (E_region (EL_at (.bool false) rfl rfl ?_))
 refine EL_nil (thn_n (E_joinC h (fun (s : Unit) e w => ∃ (g : Gh) , Fr gI wI g w ∧ e 0 = up0 ∧ RV g.m w (x0 : List Span) up0 ∧ e 1 = up1 ∧ RV g.m w (x1 : List Span) up1) (fun X2 k2 hk2 h => ?_) ?_))
 ·refine E_seq (E_region (EL_mw up0 rfl rfl ?_))
  refine EL_p (.int .i64 ((x0).length : Int)) (P_len Try.underlying51 rfl rp0) rfl ?_
  refine EL_mw up1 rfl rfl ?_
  refine EL_p (.int .i64 ((x1).length : Int)) (P_len Try.underlying51 rfl rp1) rfl ?_
  refine EL_in (.bool ((((x0).length : Int) != ((x1).length : Int)))) rfl rfl rfl rfl ?_
  refine EL_nil (thn_n ?_)
  rcases csome h with ⟨hc3, h⟩ | ⟨hc3, h⟩
  ·refine E_ct hc3 rfl ?_
   refine E_seq (E_region (EL_at (.bool false) rfl rfl ?_))
   refine EL_nil (thn_n (E_ret (thn_r ?_)))
   obtain rfl := sinj h
   exact end1 rfl rfl (show _ = .bool false from rfl) ⟨_, hfr, rfl⟩
  ·refine E_cf hc3 rfl ?_
   exact E_skip (thn_n (hk2 () _ _ ⟨g0, hfr, rfl, rp0, rfl, rp1⟩ h))
 ·rintro _ lB w4 ⟨g4, hfr, q8, r8, t8, v8⟩ h
  refine E_joinC h (fun (s : Unit) e w => ∃ (g : Gh) , Fr gI wI g w) (fun X53 k53 x8 h => ?_) ?_
  ·refine E_seq (E_region (EL_at (.int .i64 (0)) rfl rfl ?_))
   refine EL_nil (thn_n (E_block ?_))
   refine E_lp h (fun (s : Int) e w => ∃ (g : Gh) , Fr gI wI g w ∧ e 0 = up0 ∧ RV g.m w (x0 : List Span) up0 ∧ e 1 = up1 ∧ RV g.m w (x1 : List Span) up1 ∧ e 5 = .int .i64 (s)) ⟨g4, hfr, q8, r8, t8, v8, rfl⟩ (fun X54 k54 a9 => ?_)
   rintro o0 yA mB ⟨n8, hfr, x5, i6, k8, l8, j6⟩ h
   refine E_joinC h (fun (s : Unit) e w => ∃ (g : Gh) , Fr gI wI g w ∧ e 0 = up0 ∧ RV g.m w (x0 : List Span) up0 ∧ e 1 = up1 ∧ RV g.m w (x1 : List Span) up1 ∧ e 5 = .int .i64 (o0)) (fun X57 k57 d9 h => ?_) ?_
   ·refine E_seq (E_region (EL_mv j6 rfl ?_))
    refine EL_mv x5 rfl ?_
    refine EL_p (.int .i64 ((x0).length : Int)) (P_len Try.underlying51 rfl i6) rfl ?_
    refine EL_in (.bool ((decide (o0 < ((x0).length : Int))))) rfl rfl rfl rfl ?_
    refine EL_nil (thn_n ?_)
    rcases csome h with ⟨t5, h⟩ | ⟨t5, h⟩
    ·refine E_ct t5 rfl ?_
     exact E_skip (thn_n (d9 () _ _ ⟨n8, hfr, x5, i6, k8, l8, j6⟩ h))
    ·refine E_cf t5 rfl ?_
     refine E_exit ?_
     refine thn_e ?_
     refine thn_e ?_
     refine blk_hit ?_
     exact thn_n (x8 () _ _ ⟨n8, hfr⟩ h)
   ·rintro _ aB nB ⟨y9, hfr, v6, i3, x6, u3, i5⟩ h
    refine E_joinC h (fun (s : Unit) e w => ∃ (g : Gh) , Fr gI wI g w ∧ e 0 = up0 ∧ RV g.m w (x0 : List Span) up0 ∧ e 1 = up1 ∧ RV g.m w (x1 : List Span) up1 ∧ e 5 = .int .i64 (o0)) (fun X81 m8 k9 h => ?_) ?_
    ·refine E_block ?_
     refine E_seq ?_
     obtain ⟨y6, d7, h⟩ := bsome h
     have z9 := PT_idx i3 d7
     refine L_load (x := .tmp 19) Try.isAgg85 Try.sizeOf85 z9 fun bA gA l9 => ?_
     obtain ⟨a7, i7, h⟩ := bsome h
     have iA := PT_idx u3 i7
     refine L_load (x := .tmp 23) Try.isAgg85 Try.sizeOf85 iA fun jA mA n9 => ?_
     refine E_drawL (g := y9) (n := 9) [] [0, 1, 2, 3, 4, 5, 6, 7, 8] rfl mixed (by kernel_rfl) trivial ?_
     refine L_p up0 rfl rfl (P_move v6) ?_
     refine L_p (.int .i64 (o0)) rfl rfl (P_move i5) ?_
     refine L_p (ePtr up0 o0 2) rfl rfl (P_indexAddr (α := Span) Try.underlying51 Try.sizeOf85 rfl i3 rfl d7) ?_
     refine L_ld (c := bA) rfl rfl .plain (fun _ _ h => h.ch) l9 rfl ?_
     refine L_p up1 rfl rfl (P_move x6) ?_
     refine L_p (.int .i64 (o0)) rfl rfl (P_move i5) ?_
     refine L_p (ePtr up1 o0 2) rfl rfl (P_indexAddr (α := Span) Try.underlying51 Try.sizeOf85 rfl u3 rfl i7) ?_
     refine L_ld (c := jA) rfl rfl .plain (fun _ _ h => h.ch) n9 rfl ?_
     refine L_p (.bool ((!(decide (y6 = a7))))) rfl rfl (P_sne seq_85 rfl eg_85 rfl rfl gA mA) ?_
     refine L_nl fun pA oB hs => ?_
     have hfr := hfr.ext hs
     have i3 := i3.ext hs
     have u3 := u3.ext hs
     clear hs
     refine EL_nil (thn_n ?_)
     rcases csome h with ⟨l5, h⟩ | ⟨l5, h⟩
     ·refine E_ct l5 rfl ?_
      refine E_seq (E_region (EL_at (.bool false) rfl rfl ?_))
      refine EL_nil (thn_n (E_ret (blk_r ?_)))
      refine thn_r ?_
      refine thn_r ?_
      refine blk_r ?_
      refine thn_r ?_
      obtain rfl := sinj h
      exact end1 rfl rfl (show _ = .bool false from rfl) ⟨_, hfr, rfl⟩
     ·refine E_cf l5 rfl ?_
      exact E_skip (blk_n (thn_n (k9 () _ _ ⟨pA, hfr, v6, i3, x6, u3, i5⟩ h)))
    ·rintro _ qA dB ⟨u9, hfr, j7, m7, v7, g8, i8⟩ h
     refine E_region (EL_mv i8 rfl ?_)
     refine EL_in (.int .i64 ((w64 (o0 + (1 : Int))))) rfl rfl rfl rfl ?_
     refine EL_at (.int .i64 ((w64 (o0 + (1 : Int))))) rfl rfl ?_
     exact EL_nil (thn_n (a9 ((w64 (o0 + (1 : Int)))) _ _ ⟨u9, hfr, j7, m7, v7, g8, rfl⟩ h))
  ·rintro _ rA iB ⟨jB, hfr⟩ h
   refine E_seq (E_region (EL_at (.bool true) rfl rfl ?_))
   refine EL_nil (thn_n (E_ret ?_))
   obtain rfl := sinj h
   exact end1 rfl rfl (show _ = .bool true from rfl) ⟨_, hfr, rfl⟩
def f34 (x0 : BoxLoom) (x1 : List Int) : Option ((List Span)) :=
 Option.bind (α := (List Span)) (
  lp (σ := (List Span) × Int) (fun aC (i5, o0) =>
   jn (σ := Unit) (fun _ =>
    Option.bind (α := (List Span)) (
     (idx ((x0).Shuttles) o0).bind fun cC =>
     Option.bind (α := Span) (
      lp (σ := Span × Int) (fun eC (i3, l5) =>
       jn (σ := Unit) (fun _ =>
        Option.bind (α := Span) (
         (idx x1 l5).bind fun y277 =>
         bif (y277 == o0) then
          some ((⟨(max64 (0 : Int) (w64 ((i3).Low - (1 : Int)))), (max64 (0 : Int) (w64 ((i3).High - (1 : Int))))⟩ : Span))
         else
          some (i3)
         ) fun m7 =>
        eC (m7, (w64 (l5 + (1 : Int))))
        ) fun iC =>
       bif (decide (l5 < ((x1).length : Int))) then
        iC ()
       else
        some (i3)
       ) big ((cC).Yarn, (0 : Int))
      ) fun v7 =>
     (apnd 16 i5 (([v7] : List Span))).bind fun lC =>
     some (lC)
     ) fun v6 =>
    aC (v6, (w64 (o0 + (1 : Int))))
    ) fun mC =>
   bif (decide (o0 < (((x0).Shuttles).length : Int))) then
    mC ()
   else
    some (i5)
   ) big (([] : List Span), (0 : Int))
  ) fun g8 =>
 some (g8)
theorem en34 : Enters Try.prog 34 := enters_of Try.func34 (by kernel_rfl) rfl
theorem wk34 {gI : Gh} {wI : World} {x0 : BoxLoom} {x1 : List Int} {up0 : Value} (rp0 : RV gI.m wI x0 up0) {up1 : Value} (rp1 : RV gI.m wI x1 up1) {r : (List Span)} (h : f34 x0 x1 = some r) : Fn Try.prog 34 #[up0, up1] gI wI (fun m w v => RV m w (r) v) := by
 unfold f34 at h
 refine fn_of_E Try.func34 rfl (Nat.le_of_ble_eq_true rfl) fun g0 hm hfr => ?_
 have rp0 : RV g0.m wI x0 up0 := hm ▸ rp0
 have rp1 : RV g0.m wI x1 up1 := hm ▸ rp1
 show E _ 49 none _ _ _ _ _
 refine E_seq (E_region (EL_do .plain rfl (D_box (g := g0) rfl rp0 fun g1 w1 p1 hs q1 => ?_)))
 have hfr := hfr.ext hs
 have rp1 := rp1.ext hs
 refine EL_at (.slice none 0 0) rfl rfl ?_
 refine EL_nil (thn_n (E_seq (E_region (EL_do .plain rfl (D_buildSlice (g := g1) 3009 (xs := ([] : List Span)) (vs := []) Try.underlying51 Try.sizeOf85 Try.zeroValue85 rfl rfl .nil RVs.nil rfl rfl fun g2 w2 v2 hs o2 r2 hxt hfl => ?_)))))
 have hfr := hfr.stp hs
 have rp1 := rp1.stp hs
 have q1 := q1.stp hs
 refine EL_at v2 rfl rfl ?_
 refine EL_nil (thn_n ?_)
 obtain ⟨g8, hx, h⟩ := bsome h
 refine E_join (fun e w => ∃ (g : Gh) (v5 : Value), Fr gI wI g w ∧ e 5 = v5 ∧ RV g.m w (g8 : List Span) v5 ∧ OS 3009 g w 85 (g8 : List Span) v5) (fun Q' hQ => ?_) (fun jG rG hR => ?_)
 ·replace h := hx
  clear hx
  refine E_seq (E_region (EL_at (.int .i64 (0)) rfl rfl ?_))
  refine EL_nil (thn_n (E_block ?_))
  refine E_lp h (fun (s : (List Span) × Int) e w => ∃ (g : Gh) (v5 : Value), Fr gI wI g w ∧ e 1 = up1 ∧ RV g.m w (x1 : List Int) up1 ∧ e 2 = p1 ∧ PT g.m w (x0 : BoxLoom) p1 ∧ e 5 = v5 ∧ RV g.m w (s.1 : List Span) v5 ∧ OS 3009 g w 85 (s.1 : List Span) v5 ∧ e 6 = .int .i64 (s.2)) ⟨g2, (v2), hfr, rfl, rp1, rfl, q1, rfl, r2, o2, rfl⟩ (fun X149 aC vE => ?_)
  rintro ⟨i5, o0⟩ kG sG ⟨oB, u3, hfr, qC, rC, u9, n8, y9, z9, bA, gA⟩ h
  refine E_joinC h (fun (s : Unit) e w => ∃ (g : Gh) , Fr gI wI g w ∧ e 1 = up1 ∧ RV g.m w (x1 : List Int) up1 ∧ e 2 = p1 ∧ PT g.m w (x0 : BoxLoom) p1 ∧ e 5 = u3 ∧ RV g.m w (i5 : List Span) u3 ∧ OS 3009 g w 85 (i5 : List Span) u3 ∧ e 6 = .int .i64 (o0)) (fun X154 mC xE h => ?_) ?_
  ·refine E_seq (E_region (EL_mv gA rfl ?_))
   refine EL_p (fPtr p1 2) (P_fieldAddr at_25_2 u9 (PT.ptr n8)) rfl ?_
   have eF := PT_field (part_BoxLoom_2).1 n8
   refine EL_do .plain rfl (D_load (g := oB) Try.isAgg23 Try.sizeOf23 rfl eF fun tG iF => ?_)
   refine EL_p (.int .i64 (((x0).Shuttles).length : Int)) (P_len Try.underlying23 rfl iF) rfl ?_
   refine EL_p (.bool ((decide (o0 < (((x0).Shuttles).length : Int))))) (P_int rfl rfl rfl) rfl ?_
   refine EL_nil (thn_n ?_)
   rcases csome h with ⟨k9, h⟩ | ⟨k9, h⟩
   ·refine E_ct k9 rfl ?_
    exact E_skip (thn_n (xE () _ _ ⟨oB, hfr, qC, rC, u9, n8, y9, z9, bA, gA⟩ h))
   ·refine E_cf k9 rfl ?_
    refine E_exit ?_
    refine thn_e ?_
    refine thn_e ?_
    refine blk_hit ?_
    obtain rfl := sinj h
    exact hQ _ _ ⟨oB, (u3), hfr, y9, z9, bA⟩
  ·rintro _ lG uG ⟨tB, hfr, uC, x6, iA, t5, vC, y6, a7, jA⟩ h
   obtain ⟨v6, hx, h⟩ := bsome h
   refine E_join (fun e w => ∃ (g : Gh) (v5 : Value), Fr gI wI g w ∧ e 1 = up1 ∧ RV g.m w (x1 : List Int) up1 ∧ e 2 = p1 ∧ PT g.m w (x0 : BoxLoom) p1 ∧ e 5 = v5 ∧ RV g.m w (v6 : List Span) v5 ∧ OS 3009 g w 85 (v6 : List Span) v5 ∧ e 6 = .int .i64 (o0)) (fun Q' hQ => ?_) (fun mG vG hR => ?_)
   ·replace h := hx
    clear hx
    refine E_block ?_
    refine E_seq (E_region (EL_p (fPtr p1 2) (P_fieldAddr at_25_2 iA (PT.ptr t5)) rfl ?_))
    have nF := PT_field (part_BoxLoom_2).1 t5
    refine EL_do .plain rfl (D_load (g := tB) Try.isAgg23 Try.sizeOf23 rfl nF fun aD bD => ?_)
    refine EL_mv jA rfl ?_
    obtain ⟨cC, yB, h⟩ := bsome h
    refine EL_p (ePtr aD o0 5) (P_indexAddr (α := BoxShuttle) Try.underlying23 Try.sizeOf87 rfl bD rfl yB) rfl ?_
    have cD := PT_idx bD yB
    refine EL_p (fPtr (ePtr aD o0 5) 3) (P_fieldAddr at_87_3 rfl (PT.ptr cD)) rfl ?_
    have oF := PT_field (part_BoxShuttle_3).1 cD
    refine EL_do .plain rfl (D_load (g := tB) Try.isAgg85 Try.sizeOf85 rfl oF fun pF vB => ?_)
    refine EL_do .plain rfl (D_allocOc (g := tB) 2007 (⟨0, 0⟩ : Span) Try.zeroValue85 (fun m w => ⟨_, (rep_two rep_int rep_int), rfl⟩) fun qF xG x5 hs b232 cb => ?_)
    have hfr := hfr.stp hs
    have x6 := x6.stp hs
    have t5 := t5.stp hs
    have y6 := y6.stp hs
    have a7 := a7.stp hs rfl
    have vB := vB.stp hs
    clear cb
    refine EL_do .plain rfl (D_storeOc (g := qF) (v := pF) Try.sizeOf85 rfl b232 rfl vB fun rF yG hs b233 cb => ?_)
    clear cb
    have hfr := hfr.stp hs
    have x6 := x6.stp hs
    have t5 := t5.stp hs
    have y6 := y6.stp hs
    have a7 := a7.stp hs rfl
    refine EL_nil (thn_n ?_)
    obtain ⟨v7, hx, h⟩ := bsome h
    refine E_join (fun e w => ∃ (g : Gh) , Fr gI wI g w ∧ e 1 = up1 ∧ RV g.m w (x1 : List Int) up1 ∧ e 2 = p1 ∧ PT g.m w (x0 : BoxLoom) p1 ∧ e 5 = u3 ∧ RV g.m w (i5 : List Span) u3 ∧ OS 3009 g w 85 (i5 : List Span) u3 ∧ e 6 = .int .i64 (o0) ∧ e 7 = x5 ∧ OB 2007 g w 85 (v7 : Span) x5) (fun Q' hQ => ?_) (fun nG zG hR => ?_)
    ·replace h := hx
     clear hx
     refine E_seq (E_region (EL_at (.int .i64 (0)) rfl rfl ?_))
     refine EL_nil (thn_n (E_block ?_))
     refine E_lp h (fun (s : Span × Int) e w => ∃ (g : Gh) , Fr gI wI g w ∧ e 1 = up1 ∧ RV g.m w (x1 : List Int) up1 ∧ e 2 = p1 ∧ PT g.m w (x0 : BoxLoom) p1 ∧ e 5 = u3 ∧ RV g.m w (i5 : List Span) u3 ∧ OS 3009 g w 85 (i5 : List Span) u3 ∧ e 6 = .int .i64 (o0) ∧ e 7 = x5 ∧ OB 2007 g w 85 (s.1 : Span) x5 ∧ e 8 = .int .i64 (s.2)) ⟨rF, hfr, uC, x6, iA, t5, vC, y6, a7, jA, rfl, b233, rfl⟩ (fun X261 eC yE => ?_)
     rintro ⟨i3, l5⟩ oG aH ⟨eD, hfr, q8, r8, mA, pA, qA, rA, yA, aB, dB, iB, jB⟩ h
     refine E_joinC h (fun (s : Unit) e w => ∃ (g : Gh) , Fr gI wI g w ∧ e 1 = up1 ∧ RV g.m w (x1 : List Int) up1 ∧ e 2 = p1 ∧ PT g.m w (x0 : BoxLoom) p1 ∧ e 5 = u3 ∧ RV g.m w (i5 : List Span) u3 ∧ OS 3009 g w 85 (i5 : List Span) u3 ∧ e 6 = .int .i64 (o0) ∧ e 7 = x5 ∧ OB 2007 g w 85 (i3 : Span) x5 ∧ e 8 = .int .i64 (l5)) (fun X264 iC zE h => ?_) ?_
     ·refine E_seq (E_region (EL_mv jB rfl ?_))
      refine EL_mv q8 rfl ?_
      refine EL_p (.int .i64 ((x1).length : Int)) (P_len Try.underlying22 rfl r8) rfl ?_
      refine EL_in (.bool ((decide (l5 < ((x1).length : Int))))) rfl rfl rfl rfl ?_
      refine EL_nil (thn_n ?_)
      rcases csome h with ⟨l9, h⟩ | ⟨l9, h⟩
      ·refine E_ct l9 rfl ?_
       exact E_skip (thn_n (zE () _ _ ⟨eD, hfr, q8, r8, mA, pA, qA, rA, yA, aB, dB, iB, jB⟩ h))
      ·refine E_cf l9 rfl ?_
       refine E_exit ?_
       refine thn_e ?_
       refine thn_e ?_
       refine blk_hit ?_
       obtain rfl := sinj h
       exact hQ _ _ ⟨eD, hfr, q8, r8, mA, pA, qA, rA, yA, aB, dB, iB⟩
     ·rintro _ pG sF ⟨m8, hfr, t8, i6, lB, i8, mB, k8, l8, v8, d7, j6, x8⟩ h
      obtain ⟨m7, hx, h⟩ := bsome h
      refine E_join (fun e w => ∃ (g : Gh) , Fr gI wI g w ∧ e 1 = up1 ∧ RV g.m w (x1 : List Int) up1 ∧ e 2 = p1 ∧ PT g.m w (x0 : BoxLoom) p1 ∧ e 5 = u3 ∧ RV g.m w (i5 : List Span) u3 ∧ OS 3009 g w 85 (i5 : List Span) u3 ∧ e 6 = .int .i64 (o0) ∧ e 7 = x5 ∧ OB 2007 g w 85 (m7 : Span) x5 ∧ e 8 = .int .i64 (l5)) (fun Q' hQ => ?_) (fun qG bH hR => ?_)
      ·replace h := hx
       clear hx
       refine E_block ?_
       refine E_seq (E_region (EL_mv t8 rfl ?_))
       refine EL_mv x8 rfl ?_
       obtain ⟨y277, zB, h⟩ := bsome h
       refine EL_p (ePtr up1 l5 1) (P_indexAddr (α := Int) Try.underlying22 Try.sizeOf3 rfl i6 rfl zB) rfl ?_
       have tF := PT_idx i6 zB
       refine EL_do .plain rfl (D_load (g := m8) Try.isAgg3 Try.sizeOf3 rfl tF fun cH uF => ?_)
       obtain rfl := RV_int.1 uF
       refine EL_mv v8 rfl ?_
       refine EL_in (.bool ((y277 == o0))) rfl rfl rfl rfl ?_
       refine EL_nil (thn_n ?_)
       rcases csome h with ⟨n9, h⟩ | ⟨n9, h⟩
       ·refine E_ct n9 rfl ?_
        refine E_region (EL_p (fPtr x5 0) (P_fieldAddr at_85_0 d7 (OB.ptr j6)) rfl ?_)
        refine EL_do .plain rfl (D_loadF (g := m8) part_Span_0.1 Try.isAgg3 Try.sizeOf3 rfl j6 fun dH vF => ?_)
        obtain rfl := RV_int.1 vF
        refine EL_in (.int .i64 ((w64 ((i3).Low - (1 : Int))))) rfl rfl rfl rfl ?_
        refine EL_p (.int .i64 (max64 (0 : Int) (w64 ((i3).Low - (1 : Int))))) (P_max rfl rfl) rfl ?_
        refine EL_p (fPtr x5 1) (P_fieldAddr at_85_1 d7 (OB.ptr j6)) rfl ?_
        refine EL_do .plain rfl (D_loadF (g := m8) part_Span_1.1 Try.isAgg3 Try.sizeOf3 rfl j6 fun gH xF => ?_)
        obtain rfl := RV_int.1 xF
        refine EL_in (.int .i64 ((w64 ((i3).High - (1 : Int))))) rfl rfl rfl rfl ?_
        refine EL_p (.int .i64 (max64 (0 : Int) (w64 ((i3).High - (1 : Int))))) (P_max rfl rfl) rfl ?_
        have gD : RV m8.m sF (⟨(max64 (0 : Int) (w64 ((i3).Low - (1 : Int)))), (max64 (0 : Int) (w64 ((i3).High - (1 : Int))))⟩ : Span) (.agg (setCh [[.int .i64 0], [.int .i64 0]] [(0, .int .i64 (max64 (0 : Int) (w64 ((i3).Low - (1 : Int))))), (1, .int .i64 (max64 (0 : Int) (w64 ((i3).High - (1 : Int)))))]).flatten.toArray) := RV_build rfl (rep_pair (rfl) (rep_last (rfl)))
        generalize cF : (Value.agg (setCh [[.int .i64 0], [.int .i64 0]] [(0, .int .i64 (max64 (0 : Int) (w64 ((i3).Low - (1 : Int))))), (1, .int .i64 (max64 (0 : Int) (w64 ((i3).High - (1 : Int)))))]).flatten.toArray) = iD at gD
        refine EL_p iD (cF ▸ P_build (vs := [(0, .int .i64 (max64 (0 : Int) (w64 ((i3).Low - (1 : Int))))), (1, .int .i64 (max64 (0 : Int) (w64 ((i3).High - (1 : Int)))))]) [[.int .i64 0], [.int .i64 0]] lay_85 rfl rfl (.cons rfl (.cons rfl .nil)) ⟨⟨_, rfl, rfl⟩, ⟨⟨_, rfl, rfl⟩, trivial⟩⟩) rfl ?_
        refine EL_do .plain rfl (D_storeOc (g := m8) (v := iD) Try.sizeOf85 d7 j6 rfl gD fun yF iH hs b286 cb => ?_)
        clear cb
        have hfr := hfr.stp hs
        have i6 := i6.stp hs
        have i8 := i8.stp hs
        have k8 := k8.stp hs
        have l8 := l8.stp hs rfl
        refine EL_nil (blk_n ?_)
        obtain rfl := sinj h
        exact hQ _ _ ⟨yF, hfr, t8, i6, lB, i8, mB, k8, l8, v8, d7, b286, x8⟩
       ·refine E_cf n9 rfl ?_
        refine E_skip (blk_n ?_)
        obtain rfl := sinj h
        exact hQ _ _ ⟨m8, hfr, t8, i6, lB, i8, mB, k8, l8, v8, d7, j6, x8⟩
      ·clear hx
       obtain ⟨zF, hfr, jD, kD, lD, mD, nD, oD, sD, tD, uD, vD, xD⟩ := hR
       refine E_region (EL_mv xD rfl ?_)
       refine EL_in (.int .i64 ((w64 (l5 + (1 : Int))))) rfl rfl rfl rfl ?_
       refine EL_at (.int .i64 ((w64 (l5 + (1 : Int))))) rfl rfl ?_
       exact EL_nil (thn_n (yE (m7, (w64 (l5 + (1 : Int)))) _ _ ⟨zF, hfr, jD, kD, lD, mD, nD, oD, sD, tD, uD, vD, rfl⟩ h))
    ·clear hx
     obtain ⟨yD, hfr, zD, i7, aE, j7, bE, a9, d9, cE, dE, eE⟩ := hR
     refine E_region (EL_mv bE rfl ?_)
     refine EL_do .plain rfl (D_loadO (g := yD) Try.isAgg85 Try.sizeOf85 dE eE fun aG bG => ?_)
     refine EL_do .plain rfl (D_buildSlice (g := yD) 3046 (xs := ([v7] : List Span)) (vs := [aG]) Try.underlying51 Try.sizeOf85 Try.zeroValue85 rfl rfl (.cons rfl .nil) (RVs.cons bG RVs.nil) rfl rfl fun cG jH kH hs o290 dG hxt hfl => ?_)
     have hfr := hfr.stp hs
     have i7 := i7.stp hs
     have j7 := j7.stp hs
     have a9 := a9.stp hs
     have d9 := d9.stp hs rfl
     obtain ⟨lC, dF, h⟩ := bsome h
     refine EL_do .plain rfl (D_append (g := cG) (i := 3009) Try.underlying51 info_85 rfl rfl d9 a9 rfl dG dF fun eG lH gE hs o291 gG _ => ?_)
     have hfr := hfr.stp hs
     have i7 := i7.stp hs
     have j7 := j7.stp hs
     refine EL_at gE rfl rfl ?_
     refine EL_nil (blk_n ?_)
     obtain rfl := sinj h
     exact hQ _ _ ⟨eG, (gE), hfr, zD, i7, aE, j7, rfl, gG, o291, cE⟩
   ·clear hx
    obtain ⟨hG, iE, hfr, jE, kE, lE, mE, nE, oE, rE, sE⟩ := hR
    refine E_region (EL_mv sE rfl ?_)
    refine EL_in (.int .i64 ((w64 (o0 + (1 : Int))))) rfl rfl rfl rfl ?_
    refine EL_at (.int .i64 ((w64 (o0 + (1 : Int))))) rfl rfl ?_
    exact EL_nil (thn_n (vE (v6, (w64 (o0 + (1 : Int)))) _ _ ⟨hG, (iE), hfr, jE, kE, lE, mE, nE, oE, rE, rfl⟩ h))
 ·clear hx
  obtain ⟨mH, nB, hfr, tE, uE, iG⟩ := hR
  refine E_seq (E_region (EL_mv tE rfl ?_))
  refine EL_at nB rfl rfl ?_
  refine EL_nil (thn_n (E_ret ?_))
  obtain rfl := sinj h
  exact end1 rfl rfl (show _ = nB from rfl) ⟨_, hfr, uE⟩
def f35 (x0 : BoxLoom) (x1 : List Int) (x2 : Bool) : Option (Int) :=
 (mks 8 (0 : Int) ((((x0).Shuttles).length : Int))).bind fun y4 =>
 jn (σ := Unit) (fun _ =>
  some ((-1 : Int))
  ) fun yA =>
 lp (σ := (List Int) × Int) (fun aB (i5, o0) =>
  jn (σ := Unit) (fun _ =>
   jn (σ := (List Int)) (fun m7 =>
    aB (m7, (w64 (o0 + (1 : Int))))
    ) fun dB =>
   (idx x1 o0).bind fun d7 =>
   (idx ((x0).Shuttles) d7).bind fun l8 =>
   Option.bind (α := Int) (
    bif x2 then
     (idx x1 o0).bind fun i7 =>
     (idx ((x0).Shuttles) i7).bind fun m8 =>
     some (((m8).Yarn).High)
    else
     some (((l8).Yarn).Low)
    ) fun i6 =>
   (idx x1 o0).bind fun x5 =>
   (idx i5 x5).bind fun j7 =>
   (idx i5 x5).bind fun vD =>
   (idx x1 o0).bind fun l9 =>
   (idx ((List.set i5 (Int.toNat x5) ((w64 (j7 + (1 : Int)))))) l9).bind fun n9 =>
   bif (decide (n9 > i6)) then
    some (o0)
   else
    dB ((List.set i5 (Int.toNat x5) ((w64 (j7 + (1 : Int))))))
   ) fun iB =>
  bif (decide (o0 < ((x1).length : Int))) then
   iB ()
  else
   yA ()
  ) big (y4, (0 : Int))
theorem en35 : Enters Try.prog 35 := enters_of Try.func35 (by kernel_rfl) rfl
theorem wk35 {gI : Gh} {wI : World} {x0 : BoxLoom} {x1 : List Int} {x2 : Bool} {up0 : Value} (rp0 : RV gI.m wI x0 up0) {up1 : Value} (rp1 : RV gI.m wI x1 up1) {r : Int} (h : f35 x0 x1 x2 = some r) : Fn Try.prog 35 #[up0, up1, .bool (x2)] gI wI (fun _ _ v => v = .int .i64 (r)) := by
 unfold f35 at h
 refine fn_of_E Try.func35 rfl (Nat.le_of_ble_eq_true rfl) fun g0 hm hfr => ?_
 have rp0 : RV g0.m wI x0 up0 := hm ▸ rp0
 have rp1 : RV g0.m wI x1 up1 := hm ▸ rp1
 show E _ 60 none _ _ _ _ _
 refine E_seq (E_region (EL_do .plain rfl (D_box (g := g0) rfl rp0 fun g1 w1 p1 hs q1 => ?_)))
 have hfr := hfr.ext hs
 have rp1 := rp1.ext hs
 refine EL_at (.int .i64 (0)) rfl rfl ?_
 refine EL_nil (thn_n (E_seq (E_region (EL_p (fPtr p1 2) (P_fieldAddr at_25_2 rfl (PT.ptr q1)) rfl ?_))))
 have q2 := PT_field (part_BoxLoom_2).1 q1
 refine EL_do .plain rfl (D_load (g := g1) Try.isAgg23 Try.sizeOf23 rfl q2 fun v3 r3 => ?_)
 refine EL_p (.int .i64 (((x0).Shuttles).length : Int)) (P_len Try.underlying23 rfl r3) rfl ?_
 obtain ⟨y4, uE, h⟩ := bsome h
 refine EL_do .plain rfl (D_makeSliceM (g := g1) 9013 (0 : Int) rfl Try.underlying22 info_3 rfl (fun _ _ => rfl) rfl rfl uE fun g5 w5 v5 hs b5 => ?_)
 have hfr := hfr.stp hs
 have rp1 := rp1.stp hs
 have q1 := q1.stp hs
 refine EL_at v5 rfl rfl ?_
 refine EL_nil (thn_n (E_joinC h (fun (s : Unit) e w => ∃ (g : Gh) , Fr gI wI g w) (fun X253 yA iD h => ?_) ?_))
 ·refine E_seq (E_region (EL_at (.int .i64 (0)) rfl rfl ?_))
  refine EL_nil (thn_n (E_block ?_))
  refine E_lp h (fun (s : (List Int) × Int) e w => ∃ (g : Gh) , Fr gI wI g w ∧ e 1 = up1 ∧ RV g.m w (x1 : List Int) up1 ∧ e 2 = .bool (x2) ∧ e 3 = p1 ∧ PT g.m w (x0 : BoxLoom) p1 ∧ e 7 = v5 ∧ OM 9013 g w 3 (s.1 : List Int) v5 ∧ e 8 = .int .i64 (s.2)) ⟨g5, hfr, rfl, rp1, rfl, rfl, q1, rfl, b5, rfl⟩ (fun X254 aB jD => ?_)
  rintro ⟨i5, o0⟩ vE dF ⟨jB, hfr, x8, a9, lB, mB, nB, oB, tB, d9⟩ h
  refine E_joinC h (fun (s : Unit) e w => ∃ (g : Gh) , Fr gI wI g w ∧ e 1 = up1 ∧ RV g.m w (x1 : List Int) up1 ∧ e 2 = .bool (x2) ∧ e 3 = p1 ∧ PT g.m w (x0 : BoxLoom) p1 ∧ e 7 = v5 ∧ OM 9013 g w 3 (i5 : List Int) v5 ∧ e 8 = .int .i64 (o0)) (fun X257 iB kD h => ?_) ?_
  ·refine E_seq (E_region (EL_mv d9 rfl ?_))
   refine EL_mv x8 rfl ?_
   refine EL_p (.int .i64 ((x1).length : Int)) (P_len Try.underlying22 rfl a9) rfl ?_
   refine EL_in (.bool ((decide (o0 < ((x1).length : Int))))) rfl rfl rfl rfl ?_
   refine EL_nil (thn_n ?_)
   rcases csome h with ⟨n8, h⟩ | ⟨n8, h⟩
   ·refine E_ct n8 rfl ?_
    exact E_skip (thn_n (kD () _ _ ⟨jB, hfr, x8, a9, lB, mB, nB, oB, tB, d9⟩ h))
   ·refine E_cf n8 rfl ?_
    refine E_exit ?_
    refine thn_e ?_
    refine thn_e ?_
    refine blk_hit ?_
    exact thn_n (iD () _ _ ⟨jB, hfr⟩ h)
  ·rintro _ xE eF ⟨xD, hfr, j6, i3, v7, v6, u3, k9, t5, x6⟩ h
   refine E_joinC h (fun (s : (List Int)) e w => ∃ (g : Gh) , Fr gI wI g w ∧ e 1 = up1 ∧ RV g.m w (x1 : List Int) up1 ∧ e 2 = .bool (x2) ∧ e 3 = p1 ∧ PT g.m w (x0 : BoxLoom) p1 ∧ e 7 = v5 ∧ OM 9013 g w 3 (s : List Int) v5 ∧ e 8 = .int .i64 (o0)) (fun X379 dB lD h => ?_) ?_
   ·refine E_block ?_
    refine E_seq ?_
    have yD := PT_field (part_BoxLoom_2).1 u3
    refine L_load (x := .tmp 20) Try.isAgg23 Try.sizeOf23 yD fun q8 vB mD => ?_
    obtain ⟨d7, z9, h⟩ := bsome h
    have zD := PT_idx i3 z9
    refine L_load (x := .tmp 24) Try.isAgg3 Try.sizeOf3 zD fun iF aE nD => ?_
    obtain rfl := RV_int.1 aE
    obtain ⟨l8, bA, h⟩ := bsome h
    have yB := PT_idx vB bA
    have zB := PT_field (part_BoxShuttle_3).1 yB
    have bE := PT_field (part_Span_0).1 zB
    refine L_load (x := .tmp 28) Try.isAgg3 Try.sizeOf3 bE fun nF cE oD => ?_
    obtain rfl := RV_int.1 cE
    refine E_drawL (g := xD) (n := 11) [] [0, 1, 2, 3, 4, 5, 6, 7, 8, 9, 10] rfl mixed (by kernel_rfl) trivial ?_
    refine L_p (fPtr p1 2) rfl rfl (P_fieldAddr at_25_2 v6 (PT.ptr u3)) ?_
    refine L_ld (c := q8) rfl rfl .plain (fun _ _ h => h.ch) mD rfl ?_
    refine L_p up1 rfl rfl (P_move j6) ?_
    refine L_p (.int .i64 (o0)) rfl rfl (P_move x6) ?_
    refine L_p (ePtr up1 o0 1) rfl rfl (P_indexAddr (α := Int) Try.underlying22 Try.sizeOf3 rfl i3 rfl z9) ?_
    refine L_ld (c := .int .i64 (d7)) rfl rfl .plain (fun _ _ h => h.ch) nD rfl ?_
    refine L_p (ePtr q8 d7 5) rfl rfl (P_indexAddr (α := BoxShuttle) Try.underlying23 Try.sizeOf87 rfl vB rfl bA) ?_
    refine L_p (fPtr (ePtr q8 d7 5) 3) rfl rfl (P_fieldAddr at_87_3 rfl (PT.ptr yB)) ?_
    refine L_p (fPtr (fPtr (ePtr q8 d7 5) 3) 0) rfl rfl (P_fieldAddr at_85_0 rfl (PT.ptr zB)) ?_
    refine L_ld (c := .int .i64 (((l8).Yarn).Low)) rfl rfl .plain (fun _ _ h => h.ch) oD rfl ?_
    refine L_p (.int .i64 (((l8).Yarn).Low)) rfl rfl (P_assign rfl) ?_
    refine L_nl fun aC oF hs => ?_
    have hfr := hfr.ext hs
    have i3 := i3.ext hs
    have u3 := u3.ext hs
    have t5 := t5.ext hs
    clear hs
    refine EL_nil (thn_n ?_)
    obtain ⟨i6, hx, h⟩ := bsome h
    refine E_join (fun e w => ∃ (g : Gh) , Fr gI wI g w ∧ e 1 = up1 ∧ RV g.m w (x1 : List Int) up1 ∧ e 2 = .bool (x2) ∧ e 3 = p1 ∧ PT g.m w (x0 : BoxLoom) p1 ∧ e 7 = v5 ∧ OM 9013 g w 3 (i5 : List Int) v5 ∧ e 8 = .int .i64 (o0) ∧ e 9 = .int .i64 (i6)) (fun Q' hQ => ?_) (fun yE pF hR => ?_)
    ·replace h := hx
     clear hx
     refine E_seq (E_region (EL_mv v7 rfl ?_))
     refine EL_nil (thn_n ?_)
     rcases csome h with ⟨r8, h⟩ | ⟨r8, h⟩
     ·refine E_ct r8 rfl ?_
      have dE := PT_field (part_BoxLoom_2).1 u3
      refine L_load (x := .tmp 31) Try.isAgg23 Try.sizeOf23 dE fun t8 cC sD => ?_
      obtain ⟨i7, gA, h⟩ := bsome h
      have eE := PT_idx i3 gA
      refine L_load (x := .tmp 35) Try.isAgg3 Try.sizeOf3 eE fun qF gE tD => ?_
      obtain rfl := RV_int.1 gE
      obtain ⟨m8, iA, h⟩ := bsome h
      have eC := PT_idx cC iA
      have iC := PT_field (part_BoxShuttle_3).1 eC
      have iE := PT_field (part_Span_1).1 iC
      refine L_load (x := .tmp 39) Try.isAgg3 Try.sizeOf3 iE fun rF jE uD => ?_
      obtain rfl := RV_int.1 jE
      refine E_drawL (g := aC) (n := 11) [] [0, 1, 2, 3, 4, 5, 6, 7, 8, 9, 10] rfl mixed (by kernel_rfl) trivial ?_
      refine L_p (fPtr p1 2) rfl rfl (P_fieldAddr at_25_2 v6 (PT.ptr u3)) ?_
      refine L_ld (c := t8) rfl rfl .plain (fun _ _ h => h.ch) sD rfl ?_
      refine L_p up1 rfl rfl (P_move j6) ?_
      refine L_p (.int .i64 (o0)) rfl rfl (P_move x6) ?_
      refine L_p (ePtr up1 o0 1) rfl rfl (P_indexAddr (α := Int) Try.underlying22 Try.sizeOf3 rfl i3 rfl gA) ?_
      refine L_ld (c := .int .i64 (i7)) rfl rfl .plain (fun _ _ h => h.ch) tD rfl ?_
      refine L_p (ePtr t8 i7 5) rfl rfl (P_indexAddr (α := BoxShuttle) Try.underlying23 Try.sizeOf87 rfl cC rfl iA) ?_
      refine L_p (fPtr (ePtr t8 i7 5) 3) rfl rfl (P_fieldAddr at_87_3 rfl (PT.ptr eC)) ?_
      refine L_p (fPtr (fPtr (ePtr t8 i7 5) 3) 1) rfl rfl (P_fieldAddr at_85_1 rfl (PT.ptr iC)) ?_
      refine L_ld (c := .int .i64 (((m8).Yarn).High)) rfl rfl .plain (fun _ _ h => h.ch) uD rfl ?_
      refine L_p (.int .i64 (((m8).Yarn).High)) rfl rfl (P_assign rfl) ?_
      refine L_nl fun kE sF hs => ?_
      have hfr := hfr.ext hs
      have i3 := i3.ext hs
      have u3 := u3.ext hs
      have t5 := t5.ext hs
      clear hs
      refine EL_nil ?_
      obtain rfl := sinj h
      exact hQ _ _ ⟨kE, hfr, j6, i3, v7, v6, u3, k9, t5, x6, rfl⟩
     ·refine E_cf r8 rfl ?_
      refine E_skip ?_
      obtain rfl := sinj h
      exact hQ _ _ ⟨aC, hfr, j6, i3, v7, v6, u3, k9, t5, x6, rfl⟩
    ·clear hx
     obtain ⟨u9, hfr, g8, l5, lC, mC, i8, k8, y6, a7, qC⟩ := hR
     refine E_seq (E_region (EL_mv k8 rfl ?_))
     refine EL_mv g8 rfl ?_
     refine EL_mv a7 rfl ?_
     obtain ⟨x5, jA, h⟩ := bsome h
     refine EL_p (ePtr up1 o0 1) (P_indexAddr (α := Int) Try.underlying22 Try.sizeOf3 rfl l5 rfl jA) rfl ?_
     have lE := PT_idx l5 jA
     refine EL_do .plain rfl (D_load (g := u9) Try.isAgg3 Try.sizeOf3 rfl lE fun tF mE => ?_)
     obtain rfl := RV_int.1 mE
     obtain ⟨j7, mA, h⟩ := bsome h
     refine EL_p (ePtr v5 x5 1) (P_indexAddrM (α := Int) Try.underlying22 Try.sizeOf3 rfl y6 rfl mA) rfl ?_
     refine EL_do .plain rfl (D_loadM (g := u9) Try.isAgg3 Try.sizeOf3 rfl y6 mA fun uF nE => ?_)
     obtain rfl := RV_int.1 nE
     refine EL_in (.int .i64 ((w64 (j7 + (1 : Int))))) rfl rfl rfl rfl ?_
     obtain ⟨vD, pA, h⟩ := bsome h
     refine EL_p (ePtr v5 x5 1) (P_indexAddrM (α := Int) Try.underlying22 Try.sizeOf3 rfl y6 rfl pA) rfl ?_
     refine EL_do .plain rfl (D_storeM (g := u9) (α := Int) (a' := ((w64 (j7 + (1 : Int))))) Try.sizeOf3 rfl y6 pA rfl (RV_int.2 rfl) fun y9 vF hs b492 => ?_)
     have hfr := hfr.stp hs
     have l5 := l5.stp hs
     have i8 := i8.stp hs
     refine EL_nil (thn_n (E_seq (E_region (EL_mv k8 rfl ?_))))
     refine EL_mv g8 rfl ?_
     refine EL_mv a7 rfl ?_
     obtain ⟨l9, qA, h⟩ := bsome h
     refine EL_p (ePtr up1 o0 1) (P_indexAddr (α := Int) Try.underlying22 Try.sizeOf3 rfl l5 rfl qA) rfl ?_
     have oE := PT_idx l5 qA
     refine EL_do .plain rfl (D_load (g := y9) Try.isAgg3 Try.sizeOf3 rfl oE fun xF rE => ?_)
     obtain rfl := RV_int.1 rE
     obtain ⟨n9, rA, h⟩ := bsome h
     refine EL_p (ePtr v5 l9 1) (P_indexAddrM (α := Int) Try.underlying22 Try.sizeOf3 rfl b492 rfl rA) rfl ?_
     refine EL_do .plain rfl (D_loadM (g := y9) Try.isAgg3 Try.sizeOf3 rfl b492 rA fun yF sE => ?_)
     obtain rfl := RV_int.1 sE
     refine EL_mv qC rfl ?_
     refine EL_in (.bool ((decide (n9 > i6)))) rfl rfl rfl rfl ?_
     refine EL_nil (thn_n ?_)
     rcases csome h with ⟨v8, h⟩ | ⟨v8, h⟩
     ·refine E_ct v8 rfl ?_
      refine E_seq (E_region (EL_mv a7 rfl ?_))
      refine EL_at (.int .i64 (o0)) rfl rfl ?_
      refine EL_nil (thn_n (E_ret (blk_r ?_)))
      refine thn_r ?_
      refine thn_r ?_
      refine blk_r ?_
      refine thn_r ?_
      obtain rfl := sinj h
      exact end1 rfl rfl (show _ = .int .i64 (o0) from rfl) ⟨_, hfr, rfl⟩
     ·refine E_cf v8 rfl ?_
      exact E_skip (blk_n (thn_n (lD ((List.set i5 (Int.toNat x5) ((w64 (j7 + (1 : Int)))))) _ _ ⟨y9, hfr, g8, l5, lC, mC, i8, k8, b492, a7⟩ h)))
   ·rintro m7 zE zF ⟨tE, hfr, rC, uC, vC, aD, bD, cD, eD, gD⟩ h
    refine E_region (EL_mv gD rfl ?_)
    refine EL_in (.int .i64 ((w64 (o0 + (1 : Int))))) rfl rfl rfl rfl ?_
    refine EL_at (.int .i64 ((w64 (o0 + (1 : Int))))) rfl rfl ?_
    exact EL_nil (thn_n (jD (m7, (w64 (o0 + (1 : Int)))) _ _ ⟨tE, hfr, rC, uC, vC, aD, bD, cD, eD, rfl⟩ h))
 ·rintro _ cF aG ⟨bG, hfr⟩ h
  refine E_seq (E_region (EL_at (.int .i64 (-1)) rfl rfl ?_))
  refine EL_nil (thn_n (E_ret ?_))
  obtain rfl := sinj h
  exact end1 rfl rfl (show _ = .int .i64 (-1) from rfl) ⟨_, hfr, rfl⟩
def f50 (x0 : BoxLoom) : Option (BoxLoom) :=
 (apnd 8 (([] : List Int)) ((x0).Boxes)).bind fun y7 =>
 (apnd 8 (([] : List Int)) ((x0).At)).bind fun i3 =>
 (apnd 40 (([] : List BoxShuttle)) ((x0).Shuttles)).bind fun u3 =>
 some ((⟨y7, i3, u3⟩ : BoxLoom))
theorem en50 : Enters Try.prog 50 := enters_of Try.func50 (by kernel_rfl) rfl
theorem wk50 {gI : Gh} {wI : World} {x0 : BoxLoom} {up0 : Value} (rp0 : RV gI.m wI x0 up0) {r : BoxLoom} (h : f50 x0 = some r) : Fn Try.prog 50 #[up0] gI wI (fun m w v => RV m w (r) v) := by
 unfold f50 at h
 refine fn_of_E Try.func50 rfl (Nat.le_of_ble_eq_true rfl) fun g0 hm hfr => ?_
 have rp0 : RV g0.m wI x0 up0 := hm ▸ rp0
 show E _ 16 none _ _ _ _ _
 refine E_seq (E_region (EL_do .plain rfl (D_box (g := g0) rfl rp0 fun g1 w1 p1 hs q1 => ?_)))
 have hfr := hfr.ext hs
 refine EL_do .plain rfl (D_allocOc (g := g1) 2002 (⟨[], [], []⟩ : BoxLoom) Try.zeroValue25 (fun m w => ⟨_, (rep_two rep_nil (rep_two rep_nil rep_nil)), rfl⟩) fun g2 w2 p2 hs b2 cb => ?_)
 have hfr := hfr.stp hs
 have q1 := q1.stp hs
 have l9 : OSF 2002 60200 0 g2 w2 3 25 ([] : List Int) p2 := cb.osf (by rfl)
 have n9 : OSF 2002 60201 1 g2 w2 3 25 ([] : List Int) p2 := cb.osf (by rfl)
 have u9 : OSF 2002 60202 2 g2 w2 87 25 ([] : List BoxShuttle) p2 := cb.osf (by rfl)
 clear cb
 refine EL_nil (thn_n (E_seq ?_))
 have q4 := PT_field (part_BoxLoom_0).1 q1
 refine L_load (x := .tmp 4) Try.isAgg22 Try.sizeOf22 q4 fun v5 r5 i8 => ?_
 obtain ⟨y7, k8, h⟩ := bsome h
 have q9 := PT_field (part_BoxLoom_1).1 q1
 refine L_load (x := .tmp 8) Try.isAgg22 Try.sizeOf22 q9 fun l8 m8 i7 => ?_
 obtain ⟨i3, j7, h⟩ := bsome h
 have n8 := PT_field (part_BoxLoom_2).1 q1
 refine L_load (x := .tmp 12) Try.isAgg23 Try.sizeOf23 n8 fun q8 r8 m7 => ?_
 obtain ⟨u3, v7, h⟩ := bsome h
 refine E_drawL (g := g2) (n := 12) [(0, (fun v g w => RV g.m w ([] : List Int) v ∧ OS 3003 g w 3 ([] : List Int) v ∧ FullV v)), (3, (fun v g w => RV g.m w y7 v ∧ OS 3003 g w 3 y7 v)), (4, (fun v g w => RV g.m w ([] : List Int) v ∧ OS 3007 g w 3 ([] : List Int) v ∧ FullV v)), (7, (fun v g w => RV g.m w i3 v ∧ OS 3007 g w 3 i3 v)), (8, (fun v g w => RV g.m w ([] : List BoxShuttle) v ∧ OS 3011 g w 87 ([] : List BoxShuttle) v ∧ FullV v)), (11, (fun v g w => RV g.m w u3 v ∧ OS 3011 g w 87 u3 v))] [0, 1, 2, 3, 4, 5, 6, 7, 8, 9, 10, 11] rfl mixed (by kernel_rfl) (⟨fun _ => up_and up_rv (up_and up_os (up_eq _)), fun _ => up_and up_rv up_os, fun _ => up_and up_rv (up_and up_os (up_eq _)), fun _ => up_and up_rv up_os, fun _ => up_and up_rv (up_and up_os (up_eq _)), fun _ => up_and up_rv up_os, trivial⟩) ?_
 refine L_do (φ := fun v g w => RV g.m w ([] : List Int) v ∧ OS 3003 g w 3 ([] : List Int) v ∧ FullV v) rfl rfl .plain (fun g w hd => D_buildSlice (g := g) 3003 (xs := ([] : List Int)) (vs := []) Try.underlying22 Try.sizeOf3 Try.zeroValue3 rfl rfl .nil RVs.nil rfl rfl fun g' w' v hs o r hxt hfl => ⟨g', hxt, r, o, hfl⟩) (fun v3 hv => ?_)
 clear hv
 refine L_p (fPtr p1 0) rfl rfl (P_fieldAddr at_25_0 rfl (PT.ptr q1)) ?_
 refine L_ld (c := v5) rfl rfl .plain (fun _ _ h => h.ch) i8 rfl ?_
 refine L_do (φ := fun v g w => RV g.m w y7 v ∧ OS 3003 g w 3 y7 v) rfl rfl .plain (fun g w hd => D_append (g := g) (i := 3003) Try.underlying22 info_3 rfl rfl (word (A := fun g w => RV g.m w ([] : List Int) v3 ∧ OS 3003 g w 3 ([] : List Int) v3 ∧ FullV v3) 0 rfl rfl (deps_of hd)).2.1 (word (A := fun g w => RV g.m w ([] : List Int) v3 ∧ OS 3003 g w 3 ([] : List Int) v3 ∧ FullV v3) 0 rfl rfl (deps_of hd)).1 rfl (r5.ext hd.1) k8 fun g' w' v hs o r hf => ⟨g', hf (word (A := fun g w => RV g.m w ([] : List Int) v3 ∧ OS 3003 g w 3 ([] : List Int) v3 ∧ FullV v3) 0 rfl rfl (deps_of hd)).2.2, r, o⟩) (fun v6 hv => ?_)
 clear hv
 refine L_do (φ := fun v g w => RV g.m w ([] : List Int) v ∧ OS 3007 g w 3 ([] : List Int) v ∧ FullV v) rfl rfl .plain (fun g w hd => D_buildSlice (g := g) 3007 (xs := ([] : List Int)) (vs := []) Try.underlying22 Try.sizeOf3 Try.zeroValue3 rfl rfl .nil RVs.nil rfl rfl fun g' w' v hs o r hxt hfl => ⟨g', hxt, r, o, hfl⟩) (fun v8 hv => ?_)
 clear hv
 refine L_p (fPtr p1 1) rfl rfl (P_fieldAddr at_25_1 rfl (PT.ptr q1)) ?_
 refine L_ld (c := l8) rfl rfl .plain (fun _ _ h => h.ch) i7 rfl ?_
 refine L_do (φ := fun v g w => RV g.m w i3 v ∧ OS 3007 g w 3 i3 v) rfl rfl .plain (fun g w hd => D_append (g := g) (i := 3007) Try.underlying22 info_3 rfl rfl (word (A := fun g w => RV g.m w ([] : List Int) v8 ∧ OS 3007 g w 3 ([] : List Int) v8 ∧ FullV v8) 4 rfl rfl (deps_of hd)).2.1 (word (A := fun g w => RV g.m w ([] : List Int) v8 ∧ OS 3007 g w 3 ([] : List Int) v8 ∧ FullV v8) 4 rfl rfl (deps_of hd)).1 rfl (m8.ext hd.1) j7 fun g' w' v hs o r hf => ⟨g', hf (word (A := fun g w => RV g.m w ([] : List Int) v8 ∧ OS 3007 g w 3 ([] : List Int) v8 ∧ FullV v8) 4 rfl rfl (deps_of hd)).2.2, r, o⟩) (fun i5 hv => ?_)
 clear hv
 refine L_do (φ := fun v g w => RV g.m w ([] : List BoxShuttle) v ∧ OS 3011 g w 87 ([] : List BoxShuttle) v ∧ FullV v) rfl rfl .plain (fun g w hd => D_buildSlice (g := g) 3011 (xs := ([] : List BoxShuttle)) (vs := []) Try.underlying23 Try.sizeOf87 Try.zeroValue87 rfl rfl .nil RVs.nil rfl rfl fun g' w' v hs o r hxt hfl => ⟨g', hxt, r, o, hfl⟩) (fun o0 hv => ?_)
 clear hv
 refine L_p (fPtr p1 2) rfl rfl (P_fieldAddr at_25_2 rfl (PT.ptr q1)) ?_
 refine L_ld (c := q8) rfl rfl .plain (fun _ _ h => h.ch) m7 rfl ?_
 refine L_do (φ := fun v g w => RV g.m w u3 v ∧ OS 3011 g w 87 u3 v) rfl rfl .plain (fun g w hd => D_append (g := g) (i := 3011) Try.underlying23 info_87 rfl rfl (word (A := fun g w => RV g.m w ([] : List BoxShuttle) o0 ∧ OS 3011 g w 87 ([] : List BoxShuttle) o0 ∧ FullV o0) 8 rfl rfl (deps_of hd)).2.1 (word (A := fun g w => RV g.m w ([] : List BoxShuttle) o0 ∧ OS 3011 g w 87 ([] : List BoxShuttle) o0 ∧ FullV o0) 8 rfl rfl (deps_of hd)).1 rfl (r8.ext hd.1) v7 fun g' w' v hs o r hf => ⟨g', hf (word (A := fun g w => RV g.m w ([] : List BoxShuttle) o0 ∧ OS 3011 g w 87 ([] : List BoxShuttle) o0 ∧ FullV o0) 8 rfl rfl (deps_of hd)).2.2, r, o⟩) (fun l5 hv => ?_)
 clear hv
 refine L_nil fun j6 y9 hall => ?_
 have hs := hall.1
 have hfr := hfr.ext hs
 have b2 := b2.ext hs
 have z9 := (word_all (A := fun g w => RV g.m w ([] : List Int) v3 ∧ OS 3003 g w 3 ([] : List Int) v3 ∧ FullV v3) 0 rfl hall).1
 have o22 := (word_all (A := fun g w => RV g.m w ([] : List Int) v3 ∧ OS 3003 g w 3 ([] : List Int) v3 ∧ FullV v3) 0 rfl hall).2.1
 have x5 := (word_all (A := fun g w => RV g.m w y7 v6 ∧ OS 3003 g w 3 y7 v6) 3 rfl hall).1
 have o25 := (word_all (A := fun g w => RV g.m w y7 v6 ∧ OS 3003 g w 3 y7 v6) 3 rfl hall).2
 have bA := (word_all (A := fun g w => RV g.m w ([] : List Int) v8 ∧ OS 3007 g w 3 ([] : List Int) v8 ∧ FullV v8) 4 rfl hall).1
 have o26 := (word_all (A := fun g w => RV g.m w ([] : List Int) v8 ∧ OS 3007 g w 3 ([] : List Int) v8 ∧ FullV v8) 4 rfl hall).2.1
 have x6 := (word_all (A := fun g w => RV g.m w i3 i5 ∧ OS 3007 g w 3 i3 i5) 7 rfl hall).1
 have o29 := (word_all (A := fun g w => RV g.m w i3 i5 ∧ OS 3007 g w 3 i3 i5) 7 rfl hall).2
 have gA := (word_all (A := fun g w => RV g.m w ([] : List BoxShuttle) o0 ∧ OS 3011 g w 87 ([] : List BoxShuttle) o0 ∧ FullV o0) 8 rfl hall).1
 have o30 := (word_all (A := fun g w => RV g.m w ([] : List BoxShuttle) o0 ∧ OS 3011 g w 87 ([] : List BoxShuttle) o0 ∧ FullV o0) 8 rfl hall).2.1
 have y6 := (word_all (A := fun g w => RV g.m w u3 l5 ∧ OS 3011 g w 87 u3 l5) 11 rfl hall).1
 have o33 := (word_all (A := fun g w => RV g.m w u3 l5 ∧ OS 3011 g w 87 u3 l5) 11 rfl hall).2
 clear hs hall
 have a7 : RV j6.m _ (⟨y7, i3, u3⟩ : BoxLoom) (.agg (setCh [[.slice none 0 0], [.slice none 0 0], [.slice none 0 0]] [(0, v6), (1, i5), (2, l5)]).flatten.toArray) := RV_build rfl (rep_pair (RV.cells x5) (rep_pair (RV.cells x6) (rep_last (RV.cells y6))))
 generalize i6 : (Value.agg (setCh [[.slice none 0 0], [.slice none 0 0], [.slice none 0 0]] [(0, v6), (1, i5), (2, l5)]).flatten.toArray) = d7 at a7
 refine EL_p d7 (i6 ▸ P_build (vs := [(0, v6), (1, i5), (2, l5)]) [[.slice none 0 0], [.slice none 0 0], [.slice none 0 0]] lay_25 rfl rfl (.cons rfl (.cons rfl (.cons rfl .nil))) ⟨⟨_, rfl, cells_size x5⟩, ⟨⟨_, rfl, cells_size x6⟩, ⟨⟨_, rfl, cells_size y6⟩, trivial⟩⟩⟩) rfl ?_
 refine EL_do .plain rfl (D_storeOc (g := j6) (v := d7) Try.sizeOf25 rfl b2 rfl a7 fun t8 x8 hs b35 cb => ?_)
 obtain ⟨a9, d9, t5, _, _⟩ := RV_list x5
 have k9 : OSF 2002 3003 0 t8 x8 3 25 (y7 : List Int) p2 := cb.osfv (by rw [← i6, t5]; rfl) (o25.stp hs rfl)
 clear cb
 have hfr := hfr.stp hs
 refine EL_nil (thn_n (E_ret ?_))
 obtain rfl := sinj h
 obtain ⟨ad36, cv36, hp36, g8, cr36⟩ := ob_read Try.isAgg25 Try.sizeOf25 b35
 exact endm_c rfl rfl ((show _ = p2 from rfl).trans hp36) g8 ⟨_, hfr, cr36⟩
def f54 (x0 : BoxBoxLoom) (x1 : Int → BoxShuttle → Option Int) : Option (BoxRace) :=
 Option.bind (α := BoxRace) (
  lp (σ := BoxRace × Int) (fun mC (v6, o0) =>
   bif (decide (o0 < ((((x0).BoxLoom).Shuttles).length : Int))) then
    Option.bind (α := BoxRace) (
     (idx (((x0).BoxLoom).Shuttles) o0).bind fun l5 =>
     (x1 o0 l5).bind fun m7 =>
     (idx ((v6).boxes).toList (l5).Side).bind fun u9 =>
     (idx (u9).toList (l5).Box).bind fun y158 =>
     some ({ v6 with boxes := (vmod ((v6).boxes) ((l5).Side) (fun b => (vset b ((l5).Box) m7))) })
     ) fun x6 =>
    mC (x6, (w64 (o0 + (1 : Int))))
   else
    some (v6)
   ) big ((⟨(⟨List.toArray [(⟨List.toArray [0, 0, 0, 0], rfl⟩ : Vector Int 4), (⟨List.toArray [0, 0, 0, 0], rfl⟩ : Vector Int 4)], rfl⟩ : Vector (Vector Int 4) 2), ⟨0, 0⟩⟩ : BoxRace), (0 : Int))
  ) fun j7 =>
 (idx (((x0).BoxLoom).At) (0 : Int)).bind fun t5 =>
 (idx (((x0).BoxLoom).At) (1 : Int)).bind fun x5 =>
 some ({ j7 with at_ := (⟨t5, x5⟩ : BoxPick) })
theorem en54 : Enters Try.prog 54 := enters_of Try.func54 (by kernel_rfl) rfl
theorem wk54 {gI : Gh} {wI : World} {x0 : BoxBoxLoom} {x1 : Int → BoxShuttle → Option Int} {up0 : Value} (rp0 : RV gI.m wI x0 up0) {up1 : Value} (rp1 : FnV2 Try.prog x1 up1 gI wI) {r : BoxRace} (h : f54 x0 x1 = some r) : Fn Try.prog 54 #[up0, up1] gI wI (fun m w v => RV m w (r) v) := by
 unfold f54 at h
 refine fn_of_E Try.func54 rfl (Nat.le_of_ble_eq_true rfl) fun g0 hm hfr => ?_
 have rp0 : RV g0.m wI x0 up0 := hm ▸ rp0
 obtain ⟨ff1, fa1, fc1, rfl, fen1, fcl1⟩ := rp1
 show E _ 41 none _ _ _ _ _
 refine E_seq (E_region (EL_do .plain rfl (D_box (g := g0) rfl rp0 fun g1 w1 p1 hs q1 => ?_)))
 have hfr := hfr.ext hs
 have rp0 := rp0.ext hs
 refine EL_do .plain rfl (D_allocOc (g := g1) 2004 (⟨(⟨List.toArray [(⟨List.toArray [0, 0, 0, 0], rfl⟩ : Vector Int 4), (⟨List.toArray [0, 0, 0, 0], rfl⟩ : Vector Int 4)], rfl⟩ : Vector (Vector Int 4) 2), ⟨0, 0⟩⟩ : BoxRace) Try.zeroValue108 (fun m w => ⟨_, (rep_two (rep_vec (flat_chunk (rep_vec (flat_chunk rep_int (flat_chunk rep_int (flat_chunk rep_int (flat_chunk rep_int flat_nil)))) rfl) (flat_chunk (rep_vec (flat_chunk rep_int (flat_chunk rep_int (flat_chunk rep_int (flat_chunk rep_int flat_nil)))) rfl) flat_nil)) rfl) (rep_two rep_int rep_int)), rfl⟩) fun g2 w2 p2 hs b2 cb => ?_)
 have hfr := hfr.stp hs
 have rp0 := rp0.stp hs
 have q1 := q1.stp hs
 clear cb
 refine EL_nil (thn_n ?_)
 obtain ⟨j7, hx, h⟩ := bsome h
 refine E_join (fun e w => ∃ (g : Gh) , Fr gI wI g w ∧ e 2 = p1 ∧ PT g.m w (x0 : BoxBoxLoom) p1 ∧ e 4 = p2 ∧ OB 2004 g w 108 (j7 : BoxRace) p2) (fun Q' hQ => ?_) (fun aE uC hR => ?_)
 ·replace h := hx
  clear hx
  refine E_seq (E_region (EL_p (fPtr p1 0) (P_fieldAddr at_102_0 rfl (PT.ptr q1)) rfl ?_))
  have qC := PT_field (part_BoxBoxLoom_0).1 q1
  refine EL_p (fPtr (fPtr p1 0) 2) (P_fieldAddr at_25_2 rfl (PT.ptr qC)) rfl ?_
  have zD := PT_field (part_BoxLoom_2).1 qC
  refine EL_do .plain rfl (D_load (g := g2) Try.isAgg23 Try.sizeOf23 rfl zD fun k8 rC => ?_)
  refine EL_p (.int .i64 ((((x0).BoxLoom).Shuttles).length : Int)) (P_len Try.underlying23 rfl rC) rfl ?_
  refine EL_mw (.int .i64 (0)) rfl rfl ?_
  refine EL_nil (thn_n (E_block ?_))
  refine E_lp h (fun (s : BoxRace × Int) e w => ∃ (g : Gh) , Fr gI wI g w ∧ e 1 = (.func (.func ff1) fa1 fc1) ∧ e 2 = p1 ∧ PT g.m w (x0 : BoxBoxLoom) p1 ∧ e 4 = p2 ∧ OB 2004 g w 108 (s.1 : BoxRace) p2 ∧ e 9 = k8 ∧ RV g.m w (((x0).BoxLoom).Shuttles : List BoxShuttle) k8 ∧ e 10 = .int .i64 (((((x0).BoxLoom).Shuttles).length : Int)) ∧ e 11 = .int .i64 (s.2)) ⟨g2, hfr, rfl, rfl, q1, rfl, b2, rfl, rC, rfl, rfl⟩ (fun X98 mC vC => ?_)
  rintro ⟨v6, o0⟩ cE vE ⟨y9, hfr, q8, r8, i5, v7, i3, t8, u3, l8, y6⟩ h
  refine E_seq (E_region (EL_p (.bool ((decide (o0 < ((((x0).BoxLoom).Shuttles).length : Int))))) (P_int y6 l8 rfl) rfl ?_))
  refine EL_nil (thn_n (E_seq ?_))
  rcases csome h with ⟨g8, h⟩ | ⟨g8, h⟩
  ·refine E_ct g8 rfl ?_
   refine E_skip (thn_n ?_)
   obtain ⟨x6, hx, h⟩ := bsome h
   refine E_join (fun e w => ∃ (g : Gh) , Fr gI wI g w ∧ e 1 = (.func (.func ff1) fa1 fc1) ∧ e 2 = p1 ∧ PT g.m w (x0 : BoxBoxLoom) p1 ∧ e 4 = p2 ∧ OB 2004 g w 108 (x6 : BoxRace) p2 ∧ e 9 = k8 ∧ RV g.m w (((x0).BoxLoom).Shuttles : List BoxShuttle) k8 ∧ e 10 = .int .i64 (((((x0).BoxLoom).Shuttles).length : Int)) ∧ e 11 = .int .i64 (o0)) (fun Q' hQ => ?_) (fun bE dE hR => ?_)
   ·replace h := hx
    clear hx
    refine E_block ?_
    refine E_seq (E_region (EL_mv y6 rfl ?_))
    obtain ⟨l5, v8, h⟩ := bsome h
    refine EL_p (ePtr k8 o0 5) (P_indexAddr (α := BoxShuttle) Try.underlying23 Try.sizeOf87 t8 u3 y6 v8) rfl ?_
    have i6 := PT_idx u3 v8
    refine EL_do .plain rfl (D_load (g := y9) Try.isAgg87 Try.sizeOf87 rfl i6 fun aD j6 => ?_)
    refine EL_do .plain rfl (D_allocOc (g := y9) 2006 (⟨0, 0, 0, ⟨0, 0⟩⟩ : BoxShuttle) Try.zeroValue87 (fun m w => ⟨_, (rep_two rep_int (rep_two rep_int (rep_two rep_int (rep_two rep_int rep_int)))), rfl⟩) fun bD eE z9 hs b146 cb => ?_)
    have hfr := hfr.stp hs
    have i5 := i5.stp hs
    have i3 := i3.stp hs rfl
    have u3 := u3.stp hs
    have i6 := i6.stp hs
    have j6 := j6.stp hs
    clear cb
    refine EL_at (.int .i64 (o0)) rfl rfl ?_
    refine EL_do .plain rfl (D_storeOc (g := bD) (v := aD) Try.sizeOf87 rfl b146 rfl j6 fun cD gE hs b147 cb => ?_)
    clear cb
    have hfr := hfr.stp hs
    have i5 := i5.stp hs
    have i3 := i3.stp hs rfl
    have u3 := u3.stp hs
    have i6 := i6.stp hs
    have j6 := j6.stp hs
    refine EL_nil (thn_n (L_loadO (x := .tmp 16) part_BoxShuttle_1.1 Try.isAgg3 Try.sizeOf3 b147 fun iE eD oB => ?_))
    obtain rfl := RV_int.1 eD
    refine L_loadO (x := .tmp 18) part_BoxShuttle_2.1 Try.isAgg3 Try.sizeOf3 b147 fun jE gD tB => ?_
    obtain rfl := RV_int.1 gD
    refine L_loadO0 (x := .tmp 6) Try.isAgg87 Try.sizeOf87 b147 fun bA n8 vB => ?_
    obtain ⟨m7, yB, h⟩ := bsome h
    obtain ⟨u9, x8, h⟩ := bsome h
    obtain ⟨hi157, he157⟩ := vat_idx x8
    obtain ⟨y158, a9, h⟩ := bsome h
    obtain ⟨hi159, he159⟩ := vat_idx a9
    refine E_drawL (g := cD) (n := 11) [(7, (fun v g w => v = .int .i64 (m7)))] [0, 1, 2, 3, 4, 5, 6, 7, 8, 9, 10] rfl mixed (by kernel_rfl) (⟨fun _ => up_eq _, trivial⟩) ?_
    refine L_p (fPtr z9 1) rfl rfl (P_fieldAddr at_87_1 rfl (OB.ptr b147)) ?_
    refine L_ld (c := .int .i64 ((l5).Side)) rfl rfl .plain (fun _ _ h => ⟨h.ch, fun b hb _ => h.below.block b hb⟩) oB rfl ?_
    refine L_p (fPtr z9 2) rfl rfl (P_fieldAddr at_87_2 rfl (OB.ptr b147)) ?_
    refine L_ld (c := .int .i64 ((l5).Box)) rfl rfl .plain (fun _ _ h => ⟨h.ch, fun b hb _ => h.below.block b hb⟩) tB rfl ?_
    refine L_p ((.func (.func ff1) fa1 fc1)) rfl rfl (P_move q8) ?_
    refine L_p (.int .i64 (o0)) rfl rfl (P_move rfl) ?_
    refine L_ld (c := bA) rfl rfl .plain (fun _ _ h => ⟨h.ch, fun b hb _ => h.below.block b hb⟩) vB rfl ?_
    refine L_do (φ := fun v g w => v = .int .i64 (m7)) rfl rfl .plain (fun g w hd => D_callv (g := g) (vs := [.int .i64 (o0), bA]) rfl fen1 (.cons rfl (.cons rfl .nil)) (fcl1 _ _ (hfr.ext hd.1).ch _ _ _ _ _  (RV_int.2 rfl) (n8.ext hd.1) yB) fun g' w' v hs hr => ⟨g', hs, RV_int.1 hr⟩) (fun kE hv => ?_)
    obtain ⟨_, _, _, rfl⟩ := hv
    refine L_p (fPtr p2 0) rfl rfl (P_fieldAddr at_108_0 v7 (OB.ptr i3)) ?_
    refine L_p (fPtr p2 (0 + ((l5).Side : Int).toNat * 4)) rfl rfl (P_indexAddrA2 (α := Vector Int 4) (o1 := 0) rfl Try.underlying76 Try.sizeOf75 rfl (OB.ptr i3) rfl x8) ?_
    refine L_p (fPtr p2 ((0 + ((l5).Side : Int).toNat * 4) + ((l5).Box : Int).toNat * 1)) rfl rfl (P_indexAddrA2 (α := Int) (o1 := (0 + ((l5).Side : Int).toNat * 4)) rfl Try.underlying75 Try.sizeOf3 rfl (OB.ptr i3) rfl a9) ?_
    refine L_nl fun iD lE hs => ?_
    have hfr := hfr.ext hs
    have i5 := i5.ext hs
    have i3 := i3.ext hs
    have u3 := u3.ext hs
    have i6 := i6.ext hs
    have j6 := j6.ext hs
    have b147 := b147.ext hs
    have n8 := n8.ext hs
    clear hs
    refine EL_do .plain rfl (D_storeFc (g := iD) (SubS.at_ (SubS.comp part_BoxRace_0 (SubS.dynC hi157 (SubS.dyn hi159) rfl) rfl) (by first | rfl | exact Nat.add_assoc _ _ _ | simp only [Nat.add_assoc, Nat.zero_add] | omega)) Try.sizeOf3 rfl i3 rfl (RV_int.2 rfl) fun jD mE hs b184 rst hos => ?_)
    clear rst hos
    have hfr := hfr.stp hs
    have i5 := i5.stp hs
    have u3 := u3.stp hs
    refine EL_nil (blk_n ?_)
    obtain rfl := sinj h
    exact hQ _ _ ⟨jD, hfr, q8, r8, i5, v7, b184, t8, u3, l8, y6⟩
   ·clear hx
    obtain ⟨kD, hfr, gA, iA, jA, mA, pA, qA, rA, l9, n9⟩ := hR
    refine E_region (EL_in (.int .i64 ((w64 (o0 + (1 : Int))))) n9 rfl rfl rfl ?_)
    refine EL_mw (.int .i64 ((w64 (o0 + (1 : Int))))) rfl rfl ?_
    exact EL_nil (thn_n (vC (x6, (w64 (o0 + (1 : Int)))) _ _ ⟨kD, hfr, gA, iA, jA, mA, pA, qA, rA, l9, rfl⟩ h))
  ·refine E_cf g8 rfl ?_
   refine E_exit ?_
   refine thn_e ?_
   refine thn_e ?_
   refine blk_hit ?_
   obtain rfl := sinj h
   exact hQ _ _ ⟨y9, hfr, r8, i5, v7, i3⟩
 ·clear hx
  obtain ⟨yA, hfr, m8, a7, d7, i7⟩ := hR
  refine E_seq ?_
  have aB := PT_field (part_BoxBoxLoom_0).1 a7
  have lD := PT_field (part_BoxLoom_1).1 aB
  refine L_load (x := .tmp 29) Try.isAgg22 Try.sizeOf22 lD fun dB iB zB => ?_
  obtain ⟨t5, d9, h⟩ := bsome h
  have mD := PT_idx iB d9
  refine L_load (x := .tmp 31) Try.isAgg3 Try.sizeOf3 mD fun nE nD aC => ?_
  obtain rfl := RV_int.1 nD
  have jB := PT_field (part_BoxBoxLoom_0).1 a7
  have oD := PT_field (part_BoxLoom_1).1 jB
  refine L_load (x := .tmp 34) Try.isAgg22 Try.sizeOf22 oD fun lB mB cC => ?_
  obtain ⟨x5, k9, h⟩ := bsome h
  have sD := PT_idx mB k9
  refine L_load (x := .tmp 36) Try.isAgg3 Try.sizeOf3 sD fun oE tD eC => ?_
  obtain rfl := RV_int.1 tD
  have i8 : RV yA.m uC (⟨t5, x5⟩ : BoxPick) (.agg (setCh [[.int .i64 0], [.int .i64 0]] [(0, .int .i64 (t5)), (1, .int .i64 (x5))]).flatten.toArray) := RV_build rfl (rep_pair (rfl) (rep_last (rfl)))
  generalize iC : (Value.agg (setCh [[.int .i64 0], [.int .i64 0]] [(0, .int .i64 (t5)), (1, .int .i64 (x5))]).flatten.toArray) = uD at i8
  refine E_drawL (g := yA) (n := 12) [] [0, 1, 2, 3, 4, 5, 6, 7, 8, 9, 10, 11] rfl mixed (by kernel_rfl) trivial ?_
  refine L_p (fPtr p1 0) rfl rfl (P_fieldAddr at_102_0 m8 (PT.ptr a7)) ?_
  refine L_p (fPtr (fPtr p1 0) 1) rfl rfl (P_fieldAddr at_25_1 rfl (PT.ptr aB)) ?_
  refine L_ld (c := dB) rfl rfl .plain (fun _ _ h => h.ch) zB rfl ?_
  refine L_p (ePtr dB (0 : Int) 1) rfl rfl (P_indexAddr (α := Int) Try.underlying22 Try.sizeOf3 rfl iB rfl d9) ?_
  refine L_ld (c := .int .i64 (t5)) rfl rfl .plain (fun _ _ h => h.ch) aC rfl ?_
  refine L_p (fPtr p1 0) rfl rfl (P_fieldAddr at_102_0 m8 (PT.ptr a7)) ?_
  refine L_p (fPtr (fPtr p1 0) 1) rfl rfl (P_fieldAddr at_25_1 rfl (PT.ptr jB)) ?_
  refine L_ld (c := lB) rfl rfl .plain (fun _ _ h => h.ch) cC rfl ?_
  refine L_p (ePtr lB (1 : Int) 1) rfl rfl (P_indexAddr (α := Int) Try.underlying22 Try.sizeOf3 rfl mB rfl k9) ?_
  refine L_ld (c := .int .i64 (x5)) rfl rfl .plain (fun _ _ h => h.ch) eC rfl ?_
  refine L_p uD rfl rfl (iC ▸ P_build (vs := [(0, .int .i64 (t5)), (1, .int .i64 (x5))]) [[.int .i64 0], [.int .i64 0]] lay_83 rfl rfl (.cons rfl (.cons rfl .nil)) ⟨⟨_, rfl, rfl⟩, ⟨⟨_, rfl, rfl⟩, trivial⟩⟩) ?_
  refine L_p (fPtr p2 8) rfl rfl (P_fieldAddr at_108_1 d7 (OB.ptr i7)) ?_
  refine L_nl fun vD rE hs => ?_
  have hfr := hfr.ext hs
  have i7 := i7.ext hs
  have i8 := i8.ext hs
  clear hs
  refine EL_do .plain rfl (D_storeFc (g := vD) part_BoxRace_1 Try.sizeOf83 rfl i7 rfl i8 fun nB sE hs b216 rst hos => ?_)
  clear rst hos
  have hfr := hfr.stp hs
  refine EL_nil (thn_n (E_seq (E_region (EL_do .plain rfl (D_loadO (g := nB) Try.isAgg108 Try.sizeOf108 d7 b216 fun xD yD => ?_)))))
  refine EL_do .plain rfl (D_storeOc (g := nB) (v := xD) Try.sizeOf108 d7 b216 rfl yD fun tE uE hs b218 cb => ?_)
  clear cb
  have hfr := hfr.stp hs
  refine EL_nil (thn_n (E_ret ?_))
  obtain rfl := sinj h
  obtain ⟨ad219, cv219, hp219, lC, cr219⟩ := ob_read Try.isAgg108 Try.sizeOf108 b218
  exact endm_c rfl rfl ((show _ = p2 from d7).trans hp219) lC ⟨_, hfr, cr219⟩
def f59 (x0 : Int) (x1 : Int) (x2 : Int) : Option (Bool) :=
 Option.bind (α := Bool) (
  bif (decide (x0 ≥ x1)) then
   some ((decide (x0 ≤ x2)))
  else
   some (false)
  ) fun o0 =>
 some (o0)
theorem en59 : Enters Try.prog 59 := enters_of Try.func59 (by kernel_rfl) rfl
theorem wk59 {gI : Gh} {wI : World} {x0 : Int} {x1 : Int} {x2 : Int}  {r : Bool} (h : f59 x0 x1 x2 = some r) : Fn Try.prog 59 #[.int .i64 (x0), .int .i64 (x1), .int .i64 (x2)] gI wI (fun _ _ v => v = .bool (r)) := by
 unfold f59 at h
 refine fn_of_E Try.func59 rfl (Nat.le_of_ble_eq_true rfl) fun g0 hm hfr => ?_
 show E _ 15 none _ _ _ _ _
 refine E_seq (E_region (EL_at (.bool false) rfl rfl ?_))
 refine EL_nil (thn_n ?_)
 obtain ⟨o0, hx, h⟩ := bsome h
 refine E_join (fun e w => ∃ (g : Gh) , Fr gI wI g w ∧ e 6 = .bool (o0)) (fun Q' hQ => ?_) (fun u3 w3 hR => ?_)
 ·replace h := hx
  clear hx
  refine E_region (EL_mw (.int .i64 (x0)) rfl rfl ?_)
  refine EL_mw (.int .i64 (x1)) rfl rfl ?_
  refine EL_in (.bool ((decide (x0 ≥ x1)))) rfl rfl rfl rfl ?_
  refine EL_mw (.bool ((decide (x0 ≥ x1)))) rfl rfl ?_
  rcases csome h with ⟨hc2, h⟩ | ⟨hc2, h⟩
  ·refine EL_y (.int .i64 (x0)) (P_move rfl) rfl rfl hc2 rfl ?_
   refine EL_y (.int .i64 (x2)) (P_move rfl) rfl rfl hc2 rfl ?_
   refine EL_y (.bool ((decide (x0 ≤ x2)))) (P_int rfl rfl rfl) rfl rfl hc2 rfl ?_
   refine EL_p (.bool ((decide (x0 ≤ x2)))) (P_pick (b := (decide (x0 ≥ x1))) rfl (pick_t hc2 rfl)) rfl ?_
   refine EL_at (.bool ((decide (x0 ≤ x2)))) rfl rfl ?_
   refine EL_nil ?_
   obtain rfl := sinj h
   exact hQ _ _ ⟨g0, hfr, rfl⟩
  ·refine EL_s rfl rfl hc2 rfl rfl ?_
   refine EL_s rfl rfl hc2 rfl rfl ?_
   refine EL_s rfl rfl hc2 rfl rfl ?_
   refine EL_p (.bool false) (P_pick (b := (decide (x0 ≥ x1))) rfl (pick_f hc2 rfl)) rfl ?_
   refine EL_at (.bool false) rfl rfl ?_
   refine EL_nil ?_
   obtain rfl := sinj h
   exact hQ _ _ ⟨g0, hfr, rfl⟩
 ·clear hx
  obtain ⟨g3, hfr, i3⟩ := hR
  refine E_ret ?_
  obtain rfl := sinj h
  exact end1 rfl rfl (show _ = .bool (o0) from i3) ⟨_, hfr, rfl⟩
def f71 (x0 : Span) : Option (Int) :=
 some ((x0).Low)
theorem en71 : Enters Try.prog 71 := enters_of Try.func71 (by kernel_rfl) rfl
theorem wk71 {gI : Gh} {wI : World} {x0 : Span} {up0 : Value} (rp0 : RV gI.m wI x0 up0) {r : Int} (h : f71 x0 = some r) : Fn Try.prog 71 #[up0] gI wI (fun _ _ v => v = .int .i64 (r)) := by
 unfold f71 at h
 refine fn_of_E Try.func71 rfl (Nat.le_of_ble_eq_true rfl) fun g0 hm hfr => ?_
 have rp0 : RV g0.m wI x0 up0 := hm ▸ rp0
 show E _ 5 none _ _ _ _ _
 refine E_seq (E_region (EL_do .plain rfl (D_box (g := g0) rfl rp0 fun g1 w1 p1 hs q1 => ?_)))
 have hfr := hfr.ext hs
 refine EL_at (.int .i64 (0)) rfl rfl ?_
 refine EL_nil (thn_n (E_seq (E_region (EL_p (fPtr p1 0) (P_fieldAddr at_85_0 rfl (PT.ptr q1)) rfl ?_))))
 have q2 := PT_field (part_Span_0).1 q1
 refine EL_do .plain rfl (D_load (g := g1) Try.isAgg3 Try.sizeOf3 rfl q2 fun v3 r3 => ?_)
 obtain rfl := RV_int.1 r3
 refine EL_at (.int .i64 ((x0).Low)) rfl rfl ?_
 refine EL_nil (thn_n (E_ret ?_))
 obtain rfl := sinj h
 exact end1 rfl rfl (show _ = .int .i64 ((x0).Low) from rfl) ⟨_, hfr, rfl⟩
def f72 (x0 : Span) : Option (Int) :=
 some ((x0).High)
theorem en72 : Enters Try.prog 72 := enters_of Try.func72 (by kernel_rfl) rfl
theorem wk72 {gI : Gh} {wI : World} {x0 : Span} {up0 : Value} (rp0 : RV gI.m wI x0 up0) {r : Int} (h : f72 x0 = some r) : Fn Try.prog 72 #[up0] gI wI (fun _ _ v => v = .int .i64 (r)) := by
 unfold f72 at h
 refine fn_of_E Try.func72 rfl (Nat.le_of_ble_eq_true rfl) fun g0 hm hfr => ?_
 have rp0 : RV g0.m wI x0 up0 := hm ▸ rp0
 show E _ 5 none _ _ _ _ _
 refine E_seq (E_region (EL_do .plain rfl (D_box (g := g0) rfl rp0 fun g1 w1 p1 hs q1 => ?_)))
 have hfr := hfr.ext hs
 refine EL_at (.int .i64 (0)) rfl rfl ?_
 refine EL_nil (thn_n (E_seq (E_region (EL_p (fPtr p1 1) (P_fieldAddr at_85_1 rfl (PT.ptr q1)) rfl ?_))))
 have q2 := PT_field (part_Span_1).1 q1
 refine EL_do .plain rfl (D_load (g := g1) Try.isAgg3 Try.sizeOf3 rfl q2 fun v3 r3 => ?_)
 obtain rfl := RV_int.1 r3
 refine EL_at (.int .i64 ((x0).High)) rfl rfl ?_
 refine EL_nil (thn_n (E_ret ?_))
 obtain rfl := sinj h
 exact end1 rfl rfl (show _ = .int .i64 ((x0).High) from rfl) ⟨_, hfr, rfl⟩
def f75 (x0 : Int) (x1 : BoxShuttle) : Option (Int) :=
 some ((w64 (x0 + (1 : Int))))
theorem en75 : Enters Try.prog 75 := enters_of Try.func75 (by kernel_rfl) rfl
theorem wk75 {gI : Gh} {wI : World} {x0 : Int} {x1 : BoxShuttle} {up1 : Value} (rp1 : RV gI.m wI x1 up1) {r : Int} (h : f75 x0 x1 = some r) : Fn Try.prog 75 #[.int .i64 (x0), up1] gI wI (fun _ _ v => v = .int .i64 (r)) := by
 unfold f75 at h
 refine fn_of_E Try.func75 rfl (Nat.le_of_ble_eq_true rfl) fun g0 hm hfr => ?_
 have rp1 : RV g0.m wI x1 up1 := hm ▸ rp1
 show E _ 7 none _ _ _ _ _
 refine E_seq (E_region (EL_do .plain rfl (D_box (g := g0) rfl rp1 fun g1 w1 p1 hs q1 => ?_)))
 have hfr := hfr.ext hs
 refine EL_at (.int .i64 (0)) rfl rfl ?_
 refine EL_nil (thn_n (E_seq (E_region (EL_mw (.int .i64 (x0)) rfl rfl ?_))))
 refine EL_in (.int .i64 ((w64 (x0 + (1 : Int))))) rfl rfl rfl rfl ?_
 refine EL_at (.int .i64 ((w64 (x0 + (1 : Int))))) rfl rfl ?_
 refine EL_nil (thn_n (E_ret ?_))
 obtain rfl := sinj h
 exact end1 rfl rfl (show _ = .int .i64 ((w64 (x0 + (1 : Int)))) from rfl) ⟨_, hfr, rfl⟩
def f89 (x0 : BoxLoom) (x1 : Int) (x2 : Int) : Option (Int) :=
 jn (σ := Unit) (fun _ =>
  some ((-1 : Int))
  ) fun jA =>
 lp (σ := Int) (fun mA o0 =>
  jn (σ := Unit) (fun _ =>
   jn (σ := Unit) (fun _ =>
    mA ((w64 (o0 + (1 : Int))))
    ) fun k8 =>
   Option.bind (α := Bool) (
    (idx ((x0).Shuttles) o0).bind fun l5 =>
    bif ((l5).Side == x1) then
     (idx ((x0).Shuttles) o0).bind fun v6 =>
     some (((v6).Box == x2))
    else
     some (false)
    ) fun u3 =>
   bif u3 then
    some (o0)
   else
    k8 ()
   ) fun pA =>
  bif (decide (o0 < (((x0).Shuttles).length : Int))) then
   pA ()
  else
   jA ()
  ) big ((0 : Int))
theorem en89 : Enters Try.prog 89 := enters_of Try.func89 (by kernel_rfl) rfl
theorem wk89 {gI : Gh} {wI : World} {x0 : BoxLoom} {x1 : Int} {x2 : Int} {up0 : Value} (rp0 : RV gI.m wI x0 up0) {r : Int} (h : f89 x0 x1 x2 = some r) : Fn Try.prog 89 #[up0, .int .i64 (x1), .int .i64 (x2)] gI wI (fun _ _ v => v = .int .i64 (r)) := by
 unfold f89 at h
 refine fn_of_E Try.func89 rfl (Nat.le_of_ble_eq_true rfl) fun g0 hm hfr => ?_
 have rp0 : RV g0.m wI x0 up0 := hm ▸ rp0
 show E _ 34 none _ _ _ _ _
 refine E_seq (E_region (EL_do .plain rfl (D_box (g := g0) rfl rp0 fun g1 w1 p1 hs q1 => ?_)))
 have hfr := hfr.ext hs
 refine EL_at (.int .i64 (0)) rfl rfl ?_
 refine EL_nil (thn_n (E_joinC h (fun (s : Unit) e w => ∃ (g : Gh) , Fr gI wI g w) (fun X71 jA qA h => ?_) ?_))
 ·refine E_seq (E_region (EL_at (.int .i64 (0)) rfl rfl ?_))
  refine EL_nil (thn_n (E_block ?_))
  refine E_lp h (fun (s : Int) e w => ∃ (g : Gh) , Fr gI wI g w ∧ e 1 = .int .i64 (x1) ∧ e 2 = .int .i64 (x2) ∧ e 3 = p1 ∧ PT g.m w (x0 : BoxLoom) p1 ∧ e 7 = .int .i64 (s)) ⟨g1, hfr, rfl, rfl, rfl, q1, rfl⟩ (fun X72 mA rA => ?_)
  rintro o0 cC vC ⟨l8, hfr, bA, gA, m7, x6, v7⟩ h
  refine E_joinC h (fun (s : Unit) e w => ∃ (g : Gh) , Fr gI wI g w ∧ e 1 = .int .i64 (x1) ∧ e 2 = .int .i64 (x2) ∧ e 3 = p1 ∧ PT g.m w (x0 : BoxLoom) p1 ∧ e 7 = .int .i64 (o0)) (fun X77 pA yA h => ?_) ?_
  ·refine E_seq (E_region (EL_mv v7 rfl ?_))
   refine EL_p (fPtr p1 2) (P_fieldAddr at_25_2 m7 (PT.ptr x6)) rfl ?_
   have tB := PT_field (part_BoxLoom_2).1 x6
   refine EL_do .plain rfl (D_load (g := l8) Try.isAgg23 Try.sizeOf23 rfl tB fun aD vB => ?_)
   refine EL_p (.int .i64 (((x0).Shuttles).length : Int)) (P_len Try.underlying23 rfl vB) rfl ?_
   refine EL_p (.bool ((decide (o0 < (((x0).Shuttles).length : Int))))) (P_int rfl rfl rfl) rfl ?_
   refine EL_nil (thn_n ?_)
   rcases csome h with ⟨j7, h⟩ | ⟨j7, h⟩
   ·refine E_ct j7 rfl ?_
    exact E_skip (thn_n (yA () _ _ ⟨l8, hfr, bA, gA, m7, x6, v7⟩ h))
   ·refine E_cf j7 rfl ?_
    refine E_exit ?_
    refine thn_e ?_
    refine thn_e ?_
    refine blk_hit ?_
    exact thn_n (qA () _ _ ⟨l8, hfr⟩ h)
  ·rintro _ eC bD ⟨i6, hfr, y6, a7, t5, i5, x5⟩ h
   refine E_joinC h (fun (s : Unit) e w => ∃ (g : Gh) , Fr gI wI g w ∧ e 1 = .int .i64 (x1) ∧ e 2 = .int .i64 (x2) ∧ e 3 = p1 ∧ PT g.m w (x0 : BoxLoom) p1 ∧ e 7 = .int .i64 (o0)) (fun X110 k8 iA h => ?_) ?_
   ·refine E_block ?_
    obtain ⟨u3, hx, h⟩ := bsome h
    refine E_join (fun e w => ∃ (g : Gh) , Fr gI wI g w ∧ e 1 = .int .i64 (x1) ∧ e 2 = .int .i64 (x2) ∧ e 3 = p1 ∧ PT g.m w (x0 : BoxLoom) p1 ∧ e 7 = .int .i64 (o0) ∧ e 32 = .bool (u3)) (fun Q' hQ => ?_) (fun yB iC hR => ?_)
    ·replace h := hx
     clear hx
     refine E_region (EL_p (fPtr p1 2) (P_fieldAddr at_25_2 t5 (PT.ptr i5)) rfl ?_)
     have aB := PT_field (part_BoxLoom_2).1 i5
     refine EL_do .plain rfl (D_load (g := i6) Try.isAgg23 Try.sizeOf23 rfl aB fun m8 n8 => ?_)
     refine EL_mv x5 rfl ?_
     obtain ⟨l5, g8, h⟩ := bsome h
     refine EL_p (ePtr m8 o0 5) (P_indexAddr (α := BoxShuttle) Try.underlying23 Try.sizeOf87 rfl n8 rfl g8) rfl ?_
     have q8 := PT_idx n8 g8
     refine EL_p (fPtr (ePtr m8 o0 5) 1) (P_fieldAddr at_87_1 rfl (PT.ptr q8)) rfl ?_
     have dB := PT_field (part_BoxShuttle_1).1 q8
     refine EL_do .plain rfl (D_load (g := i6) Try.isAgg3 Try.sizeOf3 rfl dB fun lC iB => ?_)
     obtain rfl := RV_int.1 iB
     refine EL_mv y6 rfl ?_
     refine EL_in (.bool (((l5).Side == x1))) rfl rfl rfl rfl ?_
     refine EL_mw (.bool (((l5).Side == x1))) rfl rfl ?_
     rcases csome h with ⟨i3, h⟩ | ⟨i3, h⟩
     ·refine EL_y (fPtr p1 2) (P_fieldAddr at_25_2 t5 (PT.ptr i5)) rfl rfl i3 rfl ?_
      have jB := PT_field (part_BoxLoom_2).1 i5
      refine EL_do (.yes2 rfl rfl i3) rfl (D_load (g := i6) Try.isAgg23 Try.sizeOf23 rfl jB fun r8 t8 => ?_)
      refine EL_y (.int .i64 (o0)) (P_move x5) rfl rfl i3 rfl ?_
      obtain ⟨v6, i8, h⟩ := bsome h
      refine EL_y (ePtr r8 o0 5) (P_indexAddr (α := BoxShuttle) Try.underlying23 Try.sizeOf87 rfl t8 rfl i8) rfl rfl i3 rfl ?_
      have v8 := PT_idx t8 i8
      refine EL_y (fPtr (ePtr r8 o0 5) 2) (P_fieldAddr at_87_2 rfl (PT.ptr v8)) rfl rfl i3 rfl ?_
      have lB := PT_field (part_BoxShuttle_2).1 v8
      refine EL_do (.yes2 rfl rfl i3) rfl (D_load (g := i6) Try.isAgg3 Try.sizeOf3 rfl lB fun mC mB => ?_)
      obtain rfl := RV_int.1 mB
      refine EL_y (.int .i64 (x2)) (P_move a7) rfl rfl i3 rfl ?_
      refine EL_y (.bool (((v6).Box == x2))) (P_int rfl rfl rfl) rfl rfl i3 rfl ?_
      refine EL_p (.bool (((v6).Box == x2))) (P_pick (b := ((l5).Side == x1)) rfl (pick_t i3 rfl)) rfl ?_
      refine EL_nil ?_
      obtain rfl := sinj h
      exact hQ _ _ ⟨i6, hfr, y6, a7, t5, i5, x5, rfl⟩
     ·refine EL_s rfl rfl i3 rfl rfl ?_
      iterate 7 refine EL_s rfl rfl i3 rfl rfl ?_
      refine EL_p (.bool false) (P_pick (b := ((l5).Side == x1)) rfl (pick_f i3 rfl)) rfl ?_
      refine EL_nil ?_
      obtain rfl := sinj h
      exact hQ _ _ ⟨i6, hfr, y6, a7, t5, i5, x5, rfl⟩
    ·clear hx
     obtain ⟨nB, hfr, x8, a9, d9, k9, i7, j6⟩ := hR
     rcases csome h with ⟨d7, h⟩ | ⟨d7, h⟩
     ·refine E_cond_true (Eq.trans (show ev _ _ = .bool (u3) from j6) (congrArg Value.bool d7)) ?_
      refine E_seq (E_region (EL_mv i7 rfl ?_))
      refine EL_at (.int .i64 (o0)) rfl rfl ?_
      refine EL_nil (thn_n (E_ret (blk_r ?_)))
      refine thn_r ?_
      refine thn_r ?_
      refine blk_r ?_
      refine thn_r ?_
      obtain rfl := sinj h
      exact end1 rfl rfl (show _ = .int .i64 (o0) from rfl) ⟨_, hfr, rfl⟩
     ·refine E_cond_false (Eq.trans (show ev _ _ = .bool (u3) from j6) (congrArg Value.bool d7)) ?_
      exact E_skip (blk_n (thn_n (iA () _ _ ⟨nB, hfr, x8, a9, d9, k9, i7⟩ h)))
   ·rintro _ zB qC ⟨oB, hfr, l9, n9, u9, y9, z9⟩ h
    refine E_region (EL_mv z9 rfl ?_)
    refine EL_in (.int .i64 ((w64 (o0 + (1 : Int))))) rfl rfl rfl rfl ?_
    refine EL_at (.int .i64 ((w64 (o0 + (1 : Int))))) rfl rfl ?_
    exact EL_nil (thn_n (rA ((w64 (o0 + (1 : Int)))) _ _ ⟨oB, hfr, l9, n9, u9, y9, rfl⟩ h))
 ·rintro _ aC rC ⟨uC, hfr⟩ h
  refine E_seq (E_region (EL_at (.int .i64 (-1)) rfl rfl ?_))
  refine EL_nil (thn_n (E_ret ?_))
  obtain rfl := sinj h
  exact end1 rfl rfl (show _ = .int .i64 (-1) from rfl) ⟨_, hfr, rfl⟩
end Go.Proofs.Ytmpjooneiaiffaa
