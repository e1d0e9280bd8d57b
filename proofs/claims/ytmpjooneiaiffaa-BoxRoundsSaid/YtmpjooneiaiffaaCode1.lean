import Derived.Test.YtmpjooneiaiffaaTypes
import Derived.Test.YtmpjooneiaiffaaKn
import Derived.Test.YtmpjooneiaiffaaMap
import Derived.Test.YtmpjooneiaiffaaProg
import Derived.Test.YtmpjooneiaiffaaOwm
set_option maxRecDepth 8000
set_option maxHeartbeats 4000000
namespace Go.Proofs.Ytmpjooneiaiffaa
open Go.RowKit
theorem info_3 : (Try.prog.info? 3).map (fun i => (i.zero, i.size, i.bytes)) = some (some (.int .i64 0), 1, 8) := by kernel_rfl
theorem info_87 : (Try.prog.info? 87).map (fun i => (i.zero, i.size, i.bytes)) = some (some (.agg #[.int .i64 0, .int .i64 0, .int .i64 0, .int .i64 0, .int .i64 0]), 5, 40) := by kernel_rfl
theorem plain_Span : Plain Span := fun _ m' _ w' x _ h => (plain_two plain_int plain_int) _ m' _ w' _ _ h
theorem mixed : Try.prog.follows .mixedOrders = true := by kernel_rfl
theorem plain_BoxShuttle : Plain BoxShuttle := fun _ m' _ w' x _ h => (plain_two plain_int (plain_two plain_int (plain_two plain_int plain_Span))) _ m' _ w' _ _ h
theorem fl_83 : Try.prog.fieldsOf 83 = #[{ name := "Left", type := 3, offset := 0, embedded := false, tag := "", pkgPath := "", byteOffset := 0 }, { name := "Right", type := 3, offset := 1, embedded := false, tag := "", pkgPath := "", byteOffset := 8 }] := by kernel_rfl
theorem seq_83 : SEq (α := BoxPick) Try.prog 83 := by
 intro d x y w a b m wx m2 wy hx hy
 obtain ⟨_, ⟨_, _, rfl, rfl, rfl⟩, rfl⟩ := hx
 obtain ⟨_, ⟨_, _, rfl, rfl, rfl⟩, rfl⟩ := hy
 refine (run_equalIn_struct w (d + 1) 83 _ _ (by kernel_rfl) (by kernel_rfl)).trans ?_
 rw [fl_83]
 obtain ⟨x0, x1⟩ := x
 obtain ⟨y0, y1⟩ := y
 show (Op.eqFields (d + 1) #[.int .i64 (x0), .int .i64 (x1)] #[.int .i64 (y0), .int .i64 (y1)] _).run _ _ = _
 have x0p : (part 3 #[.int .i64 (x0), .int .i64 (x1)] 0).run Try.prog w = .ok (.int .i64 (x0)) w := part_one Try.isAgg3 rfl
 have x1p : (part 3 #[.int .i64 (x0), .int .i64 (x1)] 1).run Try.prog w = .ok (.int .i64 (x1)) w := part_one Try.isAgg3 rfl
 have y0p : (part 3 #[.int .i64 (y0), .int .i64 (y1)] 0).run Try.prog w = .ok (.int .i64 (y0)) w := part_one Try.isAgg3 rfl
 have y1p : (part 3 #[.int .i64 (y0), .int .i64 (y1)] 1).run Try.prog w = .ok (.int .i64 (y1)) w := part_one Try.isAgg3 rfl
 simp only [Op.eqFields, Sem.run_bind, Sem.run_ite, Sem.run_pure, x0p, x1p, y0p, y1p, Result.andThen_ok, run_equalIn_int _ _ _ _ _ _ _ Try.underlying3]
 simp
 grind
theorem eg_83 : Try.prog.eqGuardType Try.prog.depth 83 = false := by kernel_rfl
theorem info_83 : (Try.prog.info? 83).map (fun i => (i.zero, i.size, i.bytes)) = some (some (.agg #[.int .i64 0, .int .i64 0]), 2, 16) := by kernel_rfl
theorem fl_85 : Try.prog.fieldsOf 85 = #[{ name := "Low", type := 3, offset := 0, embedded := false, tag := "", pkgPath := "", byteOffset := 0 }, { name := "High", type := 3, offset := 1, embedded := false, tag := "", pkgPath := "", byteOffset := 8 }] := by kernel_rfl
theorem lay_25 : layoutOf Try.prog 25 = some ([.slice none 0 0, .slice none 0 0, .slice none 0 0], [(0, 1), (1, 1), (2, 1)]) := by kernel_rfl
theorem endm_c {P : Program} {e : Env} {ds : List Deferred} {w : World} {fn : Func} {R : Value → World → Prop} {t0 : Tmp} {v0 : Value} {y0 : TypeId} {a0 : Addr} (hres : fn.results = #[.cell t0 y0]) (hd : ds = []) (h0 : e t0 = .pointer (some a0)) (l0 : (loadVar y0 a0).run P w = .ok v0 w) (h : R v0 w) : atEnd P fn R .ret e ds w :=
 ⟨hd, fun tmps ht => ⟨_, by simp [results, hres, ht, asAddr, h0, l0], h⟩⟩
theorem lay_83 : layoutOf Try.prog 83 = some ([.int .i64 0, .int .i64 0], [(0, 1), (1, 1)]) := by kernel_rfl
theorem lay_102 : layoutOf Try.prog 102 = some ([.slice none 0 0, .slice none 0 0, .slice none 0 0], [(0, 3)]) := by kernel_rfl
theorem capf_0_1 {e : Env} {f : FuncId} {o0 : Operand} {b0 : Value} (hb0 : ev e o0 = b0) : (Value.func (.func f) ((#[] : Array Operand).map (ev e)) ((#[o0] : Array Operand).map (ev e))) = .func (.func f) #[] #[b0] := by simp [hb0]
theorem endm_ct {P : Program} {e : Env} {ds : List Deferred} {w : World} {fn : Func} {R : Value → World → Prop} {t0 : Tmp} {v0 : Value} {y0 : TypeId} {a0 : Addr} {t1 : Tmp} {v1 : Value} (hres : fn.results = #[.cell t0 y0, .tmp t1]) (hd : ds = []) (h0 : e t0 = .pointer (some a0)) (l0 : (loadVar y0 a0).run P w = .ok v0 w) (h1 : e t1 = v1) (h : R (.tuple #[v0, v1]) w) : atEnd P fn R .ret e ds w :=
 ⟨hd, fun tmps ht => ⟨_, by simp [results, hres, ht, asAddr, h0, l0, h1], h⟩⟩
theorem capf_0_2 {e : Env} {f : FuncId} {o0 : Operand} {j1 : Operand} {b0 : Value} {b1 : Value} (hb0 : ev e o0 = b0) (hb1 : ev e j1 = b1) : (Value.func (.func f) ((#[] : Array Operand).map (ev e)) ((#[o0, j1] : Array Operand).map (ev e))) = .func (.func f) #[] #[b0, b1] := by simp [hb0, hb1]
theorem endm_ctt {P : Program} {e : Env} {ds : List Deferred} {w : World} {fn : Func} {R : Value → World → Prop} {t0 : Tmp} {v0 : Value} {y0 : TypeId} {a0 : Addr} {t1 : Tmp} {v1 : Value} {t2 : Tmp} {v2 : Value} (hres : fn.results = #[.cell t0 y0, .tmp t1, .tmp t2]) (hd : ds = []) (h0 : e t0 = .pointer (some a0)) (l0 : (loadVar y0 a0).run P w = .ok v0 w) (h1 : e t1 = v1) (h2 : e t2 = v2) (h : R (.tuple #[v0, v1, v2]) w) : atEnd P fn R .ret e ds w :=
 ⟨hd, fun tmps ht => ⟨_, by simp [results, hres, ht, asAddr, h0, l0, h1, h2], h⟩⟩
theorem eqd_85 : EqD Try.prog Span 2 85 := EqD.struct rfl (by kernel_rfl) (by kernel_rfl) (by rw [fl_85]; exact (FEq.cons (by decide) (part_Span_0).1 Try.isAgg3 Try.sizeOf3 (EqD.int Try.underlying3) (FEq.cons (by decide) (part_Span_1).1 Try.isAgg3 Try.sizeOf3 (EqD.int Try.underlying3) FEq.nil))) (fun x y => by cases x; cases y; simp)
theorem fl_87 : Try.prog.fieldsOf 87 = #[{ name := "Colour", type := 3, offset := 0, embedded := false, tag := "", pkgPath := "", byteOffset := 0 }, { name := "Side", type := 3, offset := 1, embedded := false, tag := "", pkgPath := "", byteOffset := 8 }, { name := "Box", type := 3, offset := 2, embedded := false, tag := "", pkgPath := "", byteOffset := 16 }, { name := "Yarn", type := 85, offset := 3, embedded := false, tag := "", pkgPath := "", byteOffset := 24 }] := by kernel_rfl
theorem eqd_87 : EqD Try.prog BoxShuttle 3 87 := EqD.struct rfl (by kernel_rfl) (by kernel_rfl) (by rw [fl_87]; exact (FEq.cons (by decide) (part_BoxShuttle_0).1 Try.isAgg3 Try.sizeOf3 ((EqD.int Try.underlying3).up (by decide)) (FEq.cons (by decide) (part_BoxShuttle_1).1 Try.isAgg3 Try.sizeOf3 ((EqD.int Try.underlying3).up (by decide)) (FEq.cons (by decide) (part_BoxShuttle_2).1 Try.isAgg3 Try.sizeOf3 ((EqD.int Try.underlying3).up (by decide)) (FEq.cons (by decide) (part_BoxShuttle_3).1 Try.isAgg85 Try.sizeOf85 eqd_85 FEq.nil))))) (fun x y => by cases x; cases y; simp)
theorem eg_87 : Try.prog.eqGuardType Try.prog.depth 87 = false := by kernel_rfl
theorem lay_58 : layoutOf Try.prog 58 = some ([.slice none 0 0, .slice none 0 0, .slice none 0 0, .slice none 0 0, .int .i64 0], [(0, 1), (1, 3), (4, 1)]) := by kernel_rfl
theorem layA_138 : ((Try.prog.info? 138).bind (·.zero)).map (·.cells.toList) = some [.int .i64 0, .int .i64 0] := by kernel_rfl
theorem szA_3 : (Try.prog.info? 3).map (·.size) = some 1 := by kernel_rfl
theorem endm_cttt {P : Program} {e : Env} {ds : List Deferred} {w : World} {fn : Func} {R : Value → World → Prop} {t0 : Tmp} {v0 : Value} {y0 : TypeId} {a0 : Addr} {t1 : Tmp} {v1 : Value} {t2 : Tmp} {v2 : Value} {t3 : Tmp} {v3 : Value} (hres : fn.results = #[.cell t0 y0, .tmp t1, .tmp t2, .tmp t3]) (hd : ds = []) (h0 : e t0 = .pointer (some a0)) (l0 : (loadVar y0 a0).run P w = .ok v0 w) (h1 : e t1 = v1) (h2 : e t2 = v2) (h3 : e t3 = v3) (h : R (.tuple #[v0, v1, v2, v3]) w) : atEnd P fn R .ret e ds w :=
 ⟨hd, fun tmps ht => ⟨_, by simp [results, hres, ht, asAddr, h0, l0, h1, h2, h3], h⟩⟩
@[reducible] def ow_BoxLoom : Ow BoxLoom := Ow.struct (fun (x : BoxLoom) => (x.Boxes, x.At, x.Shuttles)) (Ow.pair (Ow.list 3 (Ow.sh Int)) (Ow.pair (Ow.list 3 (Ow.sh Int)) (Ow.list 87 (Ow.sh BoxShuttle))))
theorem fl_BoxLoom_2 : Fl ow_BoxLoom (Ow.list 87 (Ow.sh BoxShuttle)) 2 (fun (x : BoxLoom) y => { x with Shuttles := y }) (fun (q : (ow_BoxLoom).S) (r : ((Ow.list 87 (Ow.sh BoxShuttle))).S) => (Prod.fst q, (Prod.fst (Prod.snd q), r))) := Fl.of _ (Fl.comp Prod.snd Prod.snd (Fl.snd _ _) (Fl.comp Prod.snd Prod.snd (Fl.snd _ _) (Fl.id_ _) rfl) rfl) (fun _ _ => rfl)
theorem fl_BoxShuttle_1 : Fl (Ow.sh BoxShuttle) (Ow.sh Int) 1 (fun (x : BoxShuttle) y => { x with Side := y }) (fun q _ => q) := Fl.shd part_BoxShuttle_1 (fun _ _ => rfl) (fun _ _ _ => rfl)
theorem fl_BoxShuttle_2 : Fl (Ow.sh BoxShuttle) (Ow.sh Int) 2 (fun (x : BoxShuttle) y => { x with Box := y }) (fun q _ => q) := Fl.shd part_BoxShuttle_2 (fun _ _ => rfl) (fun _ _ _ => rfl)
theorem fl_BoxLoom_1 : Fl ow_BoxLoom (Ow.list 3 (Ow.sh Int)) 1 (fun (x : BoxLoom) y => { x with At := y }) (fun (q : (ow_BoxLoom).S) (r : ((Ow.list 3 (Ow.sh Int))).S) => (Prod.fst q, (r, Prod.snd (Prod.snd q)))) := Fl.of _ (Fl.comp Prod.snd Prod.snd (Fl.snd _ _) (Fl.fst _ _) rfl) (fun _ _ => rfl)
theorem lay_129 : layoutOf Try.prog 129 = some ([.slice none 0 0, .int .i64 0, .int .i64 0, .int .i64 0, .int .i64 0, .int .i64 0, .int .i64 0, .int .i64 0, .int .i64 0, .int .i64 0, .int .i64 0, .int .i64 0], [(0, 1), (1, 10), (11, 1)]) := by kernel_rfl
theorem tup4_0 {b0 b1 b2 b3 : Value} {B0 : Value → Prop} {B1 : Value → Prop} {B2 : Value → Prop} {B3 : Value → Prop} (h : ∃ c0 c1 c2 c3 : Value, Value.tuple #[b0, b1, b2, b3] = .tuple #[c0, c1, c2, c3] ∧ B0 c0 ∧ B1 c1 ∧ B2 c2 ∧ B3 c3) : B0 b0 := by
 obtain ⟨c0, c1, c2, c3, he, h0, h1, h2, h3⟩ := h; simp at he; obtain ⟨rfl, rfl, rfl, rfl⟩ := he; exact h0
theorem pl_138 : Pl (Vector Int 2) := Pl.array Pl.int
theorem eqd_138 : EqD Try.prog (Vector Int 2) 2 138 := EqD.array Try.underlying138 info_3 (by kernel_rfl) Try.isAgg3 Try.sizeOf3 (EqD.int Try.underlying3)
theorem ckd_138 : CkD Try.prog (Vector Int 2) 2 138 := CkD.array Try.underlying138 info_3 (by kernel_rfl) Try.isAgg3 Try.sizeOf3 (CkD.int Try.underlying3)
theorem key_138 : KeyLaw Try.prog 138 (encK pl_138) := keyLaw_pl pl_138 (by rw [Try.underlying138]) rfl eqd_138 ckd_138 (by decide)
theorem eqd_75 : EqD Try.prog (Vector Int 4) 2 75 := EqD.array Try.underlying75 info_3 (by kernel_rfl) Try.isAgg3 Try.sizeOf3 (EqD.int Try.underlying3)
theorem info_75 : (Try.prog.info? 75).map (fun i => (i.zero, i.size, i.bytes)) = some (some (.agg #[.int .i64 0, .int .i64 0, .int .i64 0, .int .i64 0]), 4, 32) := by kernel_rfl
theorem eqd_76 : EqD Try.prog (Vector (Vector Int 4) 2) 3 76 := EqD.array Try.underlying76 info_75 (by kernel_rfl) Try.isAgg75 Try.sizeOf75 eqd_75
theorem eg_76 : Try.prog.eqGuardType Try.prog.depth 76 = false := by kernel_rfl
def f78 (x0 : List Int) : Option (List Int) := apnd 8 [] x0
def f79 (x0 : List BoxShuttle) : Option (List BoxShuttle) := apnd 40 [] x0
def lenTab : Str := (⟨[0, 1, 2, 2, 3, 3, 3, 3, 4, 4, 4, 4, 4, 4, 4, 4, 5, 5, 5, 5, 5, 5, 5, 5, 5, 5, 5, 5, 5, 5, 5, 5, 6, 6, 6, 6, 6, 6, 6, 6, 6, 6, 6, 6, 6, 6, 6, 6, 6, 6, 6, 6, 6, 6, 6, 6, 6, 6, 6, 6, 6, 6, 6, 6, 7, 7, 7, 7, 7, 7, 7, 7, 7, 7, 7, 7, 7, 7, 7, 7, 7, 7, 7, 7, 7, 7, 7, 7, 7, 7, 7, 7, 7, 7, 7, 7, 7, 7, 7, 7, 7, 7, 7, 7, 7, 7, 7, 7, 7, 7, 7, 7, 7, 7, 7, 7, 7, 7, 7, 7, 7, 7, 7, 7, 7, 7, 7, 7, 8, 8, 8, 8, 8, 8, 8, 8, 8, 8, 8, 8, 8, 8, 8, 8, 8, 8, 8, 8, 8, 8, 8, 8, 8, 8, 8, 8, 8, 8, 8, 8, 8, 8, 8, 8, 8, 8, 8, 8, 8, 8, 8, 8, 8, 8, 8, 8, 8, 8, 8, 8, 8, 8, 8, 8, 8, 8, 8, 8, 8, 8, 8, 8, 8, 8, 8, 8, 8, 8, 8, 8, 8, 8, 8, 8, 8, 8, 8, 8, 8, 8, 8, 8, 8, 8, 8, 8, 8, 8, 8, 8, 8, 8, 8, 8, 8, 8, 8, 8, 8, 8, 8, 8, 8, 8, 8, 8, 8, 8, 8, 8, 8, 8, 8, 8, 8, 8, 8, 8, 8, 8, 8, 8, 8, 8, 8, 8]⟩ : Str)
def f120 (x : Int) : Option Int := if 0 ≤ x ∧ x < 256 then (idx lenTab.b x).map fun c => w64 (0 + (c.toNat : Int)) else none
def f109 (x : Int) : Option Int := f120 x
def f14 : Option Bool := some true
theorem en14 : Enters Try.prog 14 := enters_of Try.func14 (by kernel_rfl) rfl
theorem wk14 {gI : Gh} {wI : World} {r : Bool} (h : f14 = some r) : Fn Try.prog 14 #[] gI wI (fun _ _ v => v = .bool (r)) := by
 injection h with h
 subst h
 exact wkK14
def f13 (x0 : BoxLoom) : Option (Bool) :=
 Option.bind (α := Bool) (
  bif (decide ((((x0).Boxes).length : Int) > (10 : Int))) then
   some (true)
  else
   bif (decide ((((x0).At).length : Int) > (10 : Int))) then
    some (true)
   else
    some ((decide ((((x0).Shuttles).length : Int) > (10 : Int))))
  ) fun i3 =>
 some (i3)
theorem en13 : Enters Try.prog 13 := enters_of Try.func13 (by kernel_rfl) rfl
theorem wk13 {gI : Gh} {wI : World} {x0 : BoxLoom} {up0 : Value} (rp0 : RV gI.m wI x0 up0) {r : Bool} (h : f13 x0 = some r) : Fn Try.prog 13 #[up0] gI wI (fun _ _ v => v = .bool (r)) := by
 unfold f13 at h
 refine fn_of_E Try.func13 rfl (Nat.le_of_ble_eq_true rfl) fun g0 hm hfr => ?_
 have rp0 : RV g0.m wI x0 up0 := hm ▸ rp0
 show E _ 19 none _ _ _ _ _
 refine E_seq (E_region (EL_do .plain rfl (D_box (g := g0) rfl rp0 fun g1 w1 p1 hs q1 => ?_)))
 have hfr := hfr.ext hs
 refine EL_at (.bool false) rfl rfl ?_
 refine EL_nil (thn_n ?_)
 obtain ⟨i3, hx, h⟩ := bsome h
 refine E_join (fun e w => ∃ (g : Gh) , Fr gI wI g w ∧ e 2 = .bool (i3)) (fun Q' hQ => ?_) (fun x5 i6 hR => ?_)
 ·replace h := hx
  clear hx
  refine E_region (EL_p (fPtr p1 0) (P_fieldAddr at_25_0 rfl (PT.ptr q1)) rfl ?_)
  have u3 := PT_field (part_BoxLoom_0).1 q1
  refine EL_do .plain rfl (D_load (g := g1) Try.isAgg22 Try.sizeOf22 rfl u3 fun j6 z3 => ?_)
  refine EL_p (.int .i64 (((x0).Boxes).length : Int)) (P_len Try.underlying22 rfl z3) rfl ?_
  refine EL_p (.bool ((decide ((((x0).Boxes).length : Int) > (10 : Int))))) (P_int rfl rfl rfl) rfl ?_
  refine EL_p (.bool ((decide ((((x0).Boxes).length : Int) > (10 : Int))))) (P_move rfl) rfl ?_
  rcases csome h with ⟨o0, h⟩ | ⟨o0, h⟩
  ·refine EL_s rfl rfl o0 rfl rfl ?_
   iterate 3 refine EL_s rfl rfl o0 rfl rfl ?_
   refine EL_p (.bool true) (P_pick (b := (decide ((((x0).Boxes).length : Int) > (10 : Int)))) rfl (pick_t o0 rfl)) rfl ?_
   refine EL_dead 6 rfl ?_
   refine EL_at (.bool true) rfl rfl ?_
   refine EL_nil ?_
   obtain rfl := sinj h
   exact hQ _ _ ⟨g1, hfr, rfl⟩
  ·refine EL_y (fPtr p1 1) (P_fieldAddr at_25_1 rfl (PT.ptr q1)) rfl rfl o0 rfl ?_
   have z4 := PT_field (part_BoxLoom_1).1 q1
   refine EL_do (.yes2 rfl rfl o0) rfl (D_load (g := g1) Try.isAgg22 Try.sizeOf22 rfl z4 fun v6 i5 => ?_)
   refine EL_y (.int .i64 (((x0).At).length : Int)) (P_len Try.underlying22 rfl i5) rfl rfl o0 rfl ?_
   refine EL_y (.bool ((decide ((((x0).At).length : Int) > (10 : Int))))) (P_int rfl rfl rfl) rfl rfl o0 rfl ?_
   refine EL_p (.bool ((decide ((((x0).At).length : Int) > (10 : Int))))) (P_pick (b := (decide ((((x0).Boxes).length : Int) > (10 : Int)))) rfl (pick_f o0 rfl)) rfl ?_
   refine EL_p (.bool ((decide ((((x0).At).length : Int) > (10 : Int))))) (P_move rfl) rfl ?_
   rcases csome h with ⟨j1, h⟩ | ⟨j1, h⟩
   ·refine EL_s rfl rfl j1 rfl rfl ?_
    iterate 3 refine EL_s rfl rfl j1 rfl rfl ?_
    refine EL_p (.bool true) (P_pick (b := (decide ((((x0).At).length : Int) > (10 : Int)))) rfl (pick_t j1 rfl)) rfl ?_
    refine EL_at (.bool true) rfl rfl ?_
    refine EL_nil ?_
    obtain rfl := sinj h
    exact hQ _ _ ⟨g1, hfr, rfl⟩
   ·refine EL_y (fPtr p1 2) (P_fieldAddr at_25_2 rfl (PT.ptr q1)) rfl rfl j1 rfl ?_
    have l5 := PT_field (part_BoxLoom_2).1 q1
    refine EL_do (.yes2 rfl rfl j1) rfl (D_load (g := g1) Try.isAgg23 Try.sizeOf23 rfl l5 fun x6 t5 => ?_)
    refine EL_y (.int .i64 (((x0).Shuttles).length : Int)) (P_len Try.underlying23 rfl t5) rfl rfl j1 rfl ?_
    refine EL_y (.bool ((decide ((((x0).Shuttles).length : Int) > (10 : Int))))) (P_int rfl rfl rfl) rfl rfl j1 rfl ?_
    refine EL_p (.bool ((decide ((((x0).Shuttles).length : Int) > (10 : Int))))) (P_pick (b := (decide ((((x0).At).length : Int) > (10 : Int)))) rfl (pick_f j1 rfl)) rfl ?_
    refine EL_p (.bool ((decide ((((x0).Shuttles).length : Int) > (10 : Int))))) (P_assign rfl) rfl ?_
    refine EL_nil ?_
    obtain rfl := sinj h
    exact hQ _ _ ⟨g1, hfr, rfl⟩
 ·clear hx
  obtain ⟨y6, hfr, j3⟩ := hR
  refine E_ret ?_
  obtain rfl := sinj h
  exact end1 rfl rfl (show _ = .bool (i3) from j3) ⟨_, hfr, rfl⟩
def f19 (x0 : List Int) (x1 : List Int) : Option (Bool) :=
 jn (σ := Unit) (fun _ =>
  jn (σ := Unit) (fun _ =>
   some (true)
   ) fun k53 =>
  lp (σ := Int) (fun k54 o0 =>
   jn (σ := Unit) (fun _ =>
    jn (σ := Unit) (fun _ =>
     k54 ((w64 (o0 + (1 : Int))))
     ) fun j7 =>
    (idx x0 o0).bind fun z4 =>
    (idx x1 o0).bind fun i5 =>
    bif (z4 != i5) then
     some (false)
    else
     j7 ()
    ) fun k57 =>
   bif (decide (o0 < ((x0).length : Int))) then
    k57 ()
   else
    k53 ()
   ) big ((0 : Int))
  ) fun k2 =>
 bif (((x0).length : Int) != ((x1).length : Int)) then
  some (false)
 else
  k2 ()
theorem en19 : Enters Try.prog 19 := enters_of Try.func19 (by kernel_rfl) rfl
theorem wk19 {gI : Gh} {wI : World} {x0 : List Int} {x1 : List Int} {up0 : Value} (rp0 : RV gI.m wI x0 up0) {up1 : Value} (rp1 : RV gI.m wI x1 up1) {r : Bool} (h : f19 x0 x1 = some r) : Fn Try.prog 19 #[up0, up1] gI wI (fun _ _ v => v = .bool (r)) := by
 unfold f19 at h
 refine fn_of_E Try.func19 rfl (Nat.le_of_ble_eq_true rfl) fun g0 hm hfr => ?_
 have rp0 : RV g0.m wI x0 up0 := hm ▸ rp0
 have rp1 : RV g0.m wI x1 up1 := hm ▸ rp1
 show E _ 26 none _ _ _ _ _
 refine E_seq (E_region (EL_at (.bool false) rfl rfl ?_))
 refine EL_nil (thn_n (E_joinC h (fun (s : Unit) e w => ∃ (g : Gh) , Fr gI wI g w ∧ e 0 = up0 ∧ RV g.m w (x0 : List Int) up0 ∧ e 1 = up1 ∧ RV g.m w (x1 : List Int) up1) (fun X2 k2 hk2 h => ?_) ?_))
 ·refine E_seq (E_region (EL_mw up0 rfl rfl ?_))
  refine EL_p (.int .i64 ((x0).length : Int)) (P_len Try.underlying22 rfl rp0) rfl ?_
  refine EL_mw up1 rfl rfl ?_
  refine EL_p (.int .i64 ((x1).length : Int)) (P_len Try.underlying22 rfl rp1) rfl ?_
  refine EL_in (.bool ((((x0).length : Int) != ((x1).length : Int)))) rfl rfl rfl rfl ?_
  refine EL_nil (thn_n ?_)
  rcases csome h with ⟨hc3, h⟩ | ⟨hc3, h⟩
  ·refine E_ct hc3 rfl ?_
   refine E_seq (E_region (EL_at (.bool false) rfl rfl ?_))
   refine EL_nil (thn_n (E_ret (thn_r ?_)))
   obtain rfl := sinj h
   exact end1 rfl rfl (show _ = .bool false from rfl) ⟨_, hfr, rfl⟩
  ·refine E_cf hc3 rfl ?_
   exact E_skip (thn_n (hk2 () _ _ ⟨g0, hfr, rfl, rp0, rfl, rp1⟩ h))
 ·rintro _ t9 w4 ⟨g4, hfr, o7, u7, v7, c8⟩ h
  refine E_joinC h (fun (s : Unit) e w => ∃ (g : Gh) , Fr gI wI g w) (fun X53 k53 g8 h => ?_) ?_
  ·refine E_seq (E_region (EL_at (.int .i64 (0)) rfl rfl ?_))
   refine EL_nil (thn_n (E_block ?_))
   refine E_lp h (fun (s : Int) e w => ∃ (g : Gh) , Fr gI wI g w ∧ e 0 = up0 ∧ RV g.m w (x0 : List Int) up0 ∧ e 1 = up1 ∧ RV g.m w (x1 : List Int) up1 ∧ e 5 = .int .i64 (s)) ⟨g4, hfr, o7, u7, v7, c8, rfl⟩ (fun X54 k54 i8 => ?_)
   rintro o0 i9 u9 ⟨m7, hfr, l5, t5, g7, i7, x5⟩ h
   refine E_joinC h (fun (s : Unit) e w => ∃ (g : Gh) , Fr gI wI g w ∧ e 0 = up0 ∧ RV g.m w (x0 : List Int) up0 ∧ e 1 = up1 ∧ RV g.m w (x1 : List Int) up1 ∧ e 5 = .int .i64 (o0)) (fun X57 k57 k8 h => ?_) ?_
   ·refine E_seq (E_region (EL_mv x5 rfl ?_))
    refine EL_mv l5 rfl ?_
    refine EL_p (.int .i64 ((x0).length : Int)) (P_len Try.underlying22 rfl t5) rfl ?_
    refine EL_in (.bool ((decide (o0 < ((x0).length : Int))))) rfl rfl rfl rfl ?_
    refine EL_nil (thn_n ?_)
    rcases csome h with ⟨z3, h⟩ | ⟨z3, h⟩
    ·refine E_ct z3 rfl ?_
     exact E_skip (thn_n (k8 () _ _ ⟨m7, hfr, l5, t5, g7, i7, x5⟩ h))
    ·refine E_cf z3 rfl ?_
     refine E_exit ?_
     refine thn_e ?_
     refine thn_e ?_
     refine blk_hit ?_
     exact thn_n (g8 () _ _ ⟨m7, hfr⟩ h)
   ·rintro _ k9 y9 ⟨q8, hfr, i6, j1, j6, i3, j3⟩ h
    refine E_joinC h (fun (s : Unit) e w => ∃ (g : Gh) , Fr gI wI g w ∧ e 0 = up0 ∧ RV g.m w (x0 : List Int) up0 ∧ e 1 = up1 ∧ RV g.m w (x1 : List Int) up1 ∧ e 5 = .int .i64 (o0)) (fun X81 j7 l8 h => ?_) ?_
    ·refine E_block ?_
     refine E_seq ?_
     obtain ⟨z4, v6, h⟩ := bsome h
     have r8 := PT_idx j1 v6
     refine L_load (x := .tmp 19) Try.isAgg3 Try.sizeOf3 r8 fun z9 t8 m8 => ?_
     obtain rfl := RV_int.1 t8
     obtain ⟨i5, x6, h⟩ := bsome h
     have v8 := PT_idx i3 x6
     refine L_load (x := .tmp 23) Try.isAgg3 Try.sizeOf3 v8 fun bA x8 n8 => ?_
     obtain rfl := RV_int.1 x8
     refine E_drawL (g := q8) (n := 9) [] [0, 1, 2, 3, 4, 5, 6, 7, 8] rfl mixed (by kernel_rfl) trivial ?_
     refine L_p up0 rfl rfl (P_move i6) ?_
     refine L_p (.int .i64 (o0)) rfl rfl (P_move j3) ?_
     refine L_p (ePtr up0 o0 1) rfl rfl (P_indexAddr (α := Int) Try.underlying22 Try.sizeOf3 rfl j1 rfl v6) ?_
     refine L_ld (c := .int .i64 (z4)) rfl rfl .plain (fun _ _ h => h.ch) m8 rfl ?_
     refine L_p up1 rfl rfl (P_move j6) ?_
     refine L_p (.int .i64 (o0)) rfl rfl (P_move j3) ?_
     refine L_p (ePtr up1 o0 1) rfl rfl (P_indexAddr (α := Int) Try.underlying22 Try.sizeOf3 rfl i3 rfl x6) ?_
     refine L_ld (c := .int .i64 (i5)) rfl rfl .plain (fun _ _ h => h.ch) n8 rfl ?_
     refine L_p (.bool ((z4 != i5))) rfl rfl (P_int rfl rfl rfl) ?_
     refine L_nl fun y8 gA hs => ?_
     have hfr := hfr.ext hs
     have j1 := j1.ext hs
     have i3 := i3.ext hs
     clear hs
     refine EL_nil (thn_n ?_)
     rcases csome h with ⟨u3, h⟩ | ⟨u3, h⟩
     ·refine E_ct u3 rfl ?_
      refine E_seq (E_region (EL_at (.bool false) rfl rfl ?_))
      refine EL_nil (thn_n (E_ret (blk_r ?_)))
      refine thn_r ?_
      refine thn_r ?_
      refine blk_r ?_
      refine thn_r ?_
      obtain rfl := sinj h
      exact end1 rfl rfl (show _ = .bool false from rfl) ⟨_, hfr, rfl⟩
     ·refine E_cf u3 rfl ?_
      exact E_skip (blk_n (thn_n (l8 () _ _ ⟨y8, hfr, i6, j1, j6, i3, j3⟩ h)))
    ·rintro _ a9 l9 ⟨o8, hfr, y6, a7, b7, c7, d7⟩ h
     refine E_region (EL_mv d7 rfl ?_)
     refine EL_in (.int .i64 ((w64 (o0 + (1 : Int))))) rfl rfl rfl rfl ?_
     refine EL_at (.int .i64 ((w64 (o0 + (1 : Int))))) rfl rfl ?_
     exact EL_nil (thn_n (i8 ((w64 (o0 + (1 : Int)))) _ _ ⟨o8, hfr, y6, a7, b7, c7, rfl⟩ h))
  ·rintro _ d9 n9 ⟨o9, hfr⟩ h
   refine E_seq (E_region (EL_at (.bool true) rfl rfl ?_))
   refine EL_nil (thn_n (E_ret ?_))
   obtain rfl := sinj h
   exact end1 rfl rfl (show _ = .bool true from rfl) ⟨_, hfr, rfl⟩
def f23 (x0 : List BoxPick) (x1 : List BoxPick) : Option (Bool) :=
 jn (σ := Unit) (fun _ =>
  jn (σ := Unit) (fun _ =>
   some (true)
   ) fun k53 =>
  lp (σ := Int) (fun k54 o0 =>
   jn (σ := Unit) (fun _ =>
    jn (σ := Unit) (fun _ =>
     k54 ((w64 (o0 + (1 : Int))))
     ) fun j7 =>
    (idx x0 o0).bind fun i6 =>
    (idx x1 o0).bind fun j6 =>
    bif (!(decide (i6 = j6))) then
     some (false)
    else
     j7 ()
    ) fun k57 =>
   bif (decide (o0 < ((x0).length : Int))) then
    k57 ()
   else
    k53 ()
   ) big ((0 : Int))
  ) fun k2 =>
 bif (((x0).length : Int) != ((x1).length : Int)) then
  some (false)
 else
  k2 ()
theorem en23 : Enters Try.prog 23 := enters_of Try.func23 (by kernel_rfl) rfl
theorem wk23 {gI : Gh} {wI : World} {x0 : List BoxPick} {x1 : List BoxPick} {up0 : Value} (rp0 : RV gI.m wI x0 up0) {up1 : Value} (rp1 : RV gI.m wI x1 up1) {r : Bool} (h : f23 x0 x1 = some r) : Fn Try.prog 23 #[up0, up1] gI wI (fun _ _ v => v = .bool (r)) := by
 unfold f23 at h
 refine fn_of_E Try.func23 rfl (Nat.le_of_ble_eq_true rfl) fun g0 hm hfr => ?_
 have rp0 : RV g0.m wI x0 up0 := hm ▸ rp0
 have rp1 : RV g0.m wI x1 up1 := hm ▸ rp1
 show E _ 26 none _ _ _ _ _
 refine E_seq (E_region (EL_at (.bool false) rfl rfl ?_))
 refine EL_nil (thn_n (E_joinC h (fun (s : Unit) e w => ∃ (g : Gh) , Fr gI wI g w ∧ e 0 = up0 ∧ RV g.m w (x0 : List BoxPick) up0 ∧ e 1 = up1 ∧ RV g.m w (x1 : List BoxPick) up1) (fun X2 k2 hk2 h => ?_) ?_))
 ·refine E_seq (E_region (EL_mw up0 rfl rfl ?_))
  refine EL_p (.int .i64 ((x0).length : Int)) (P_len Try.underlying30 rfl rp0) rfl ?_
  refine EL_mw up1 rfl rfl ?_
  refine EL_p (.int .i64 ((x1).length : Int)) (P_len Try.underlying30 rfl rp1) rfl ?_
  refine EL_in (.bool ((((x0).length : Int) != ((x1).length : Int)))) rfl rfl rfl rfl ?_
  refine EL_nil (thn_n ?_)
  rcases csome h with ⟨hc3, h⟩ | ⟨hc3, h⟩
  ·refine E_ct hc3 rfl ?_
   refine E_seq (E_region (EL_at (.bool false) rfl rfl ?_))
   refine EL_nil (thn_n (E_ret (thn_r ?_)))
   obtain rfl := sinj h
   exact end1 rfl rfl (show _ = .bool false from rfl) ⟨_, hfr, rfl⟩
  ·refine E_cf hc3 rfl ?_
   exact E_skip (thn_n (hk2 () _ _ ⟨g0, hfr, rfl, rp0, rfl, rp1⟩ h))
 ·rintro _ y9 w4 ⟨g4, hfr, o7, u7, v7, c8⟩ h
  refine E_joinC h (fun (s : Unit) e w => ∃ (g : Gh) , Fr gI wI g w) (fun X53 k53 g8 h => ?_) ?_
  ·refine E_seq (E_region (EL_at (.int .i64 (0)) rfl rfl ?_))
   refine EL_nil (thn_n (E_block ?_))
   refine E_lp h (fun (s : Int) e w => ∃ (g : Gh) , Fr gI wI g w ∧ e 0 = up0 ∧ RV g.m w (x0 : List BoxPick) up0 ∧ e 1 = up1 ∧ RV g.m w (x1 : List BoxPick) up1 ∧ e 5 = .int .i64 (s)) ⟨g4, hfr, o7, u7, v7, c8, rfl⟩ (fun X54 k54 i8 => ?_)
   rintro o0 l9 z9 ⟨m7, hfr, z4, i5, g7, i7, l5⟩ h
   refine E_joinC h (fun (s : Unit) e w => ∃ (g : Gh) , Fr gI wI g w ∧ e 0 = up0 ∧ RV g.m w (x0 : List BoxPick) up0 ∧ e 1 = up1 ∧ RV g.m w (x1 : List BoxPick) up1 ∧ e 5 = .int .i64 (o0)) (fun X57 k57 k8 h => ?_) ?_
   ·refine E_seq (E_region (EL_mv l5 rfl ?_))
    refine EL_mv z4 rfl ?_
    refine EL_p (.int .i64 ((x0).length : Int)) (P_len Try.underlying30 rfl i5) rfl ?_
    refine EL_in (.bool ((decide (o0 < ((x0).length : Int))))) rfl rfl rfl rfl ?_
    refine EL_nil (thn_n ?_)
    rcases csome h with ⟨z3, h⟩ | ⟨z3, h⟩
    ·refine E_ct z3 rfl ?_
     exact E_skip (thn_n (k8 () _ _ ⟨m7, hfr, z4, i5, g7, i7, l5⟩ h))
    ·refine E_cf z3 rfl ?_
     refine E_exit ?_
     refine thn_e ?_
     refine thn_e ?_
     refine blk_hit ?_
     exact thn_n (g8 () _ _ ⟨m7, hfr⟩ h)
   ·rintro _ n9 bA ⟨q8, hfr, t5, j1, x5, i3, j3⟩ h
    refine E_joinC h (fun (s : Unit) e w => ∃ (g : Gh) , Fr gI wI g w ∧ e 0 = up0 ∧ RV g.m w (x0 : List BoxPick) up0 ∧ e 1 = up1 ∧ RV g.m w (x1 : List BoxPick) up1 ∧ e 5 = .int .i64 (o0)) (fun X81 j7 l8 h => ?_) ?_
    ·refine E_block ?_
     refine E_seq ?_
     obtain ⟨i6, v6, h⟩ := bsome h
     have r8 := PT_idx j1 v6
     refine L_load (x := .tmp 19) Try.isAgg83 Try.sizeOf83 r8 fun t8 v8 m8 => ?_
     obtain ⟨j6, x6, h⟩ := bsome h
     have x8 := PT_idx i3 x6
     refine L_load (x := .tmp 23) Try.isAgg83 Try.sizeOf83 x8 fun y8 a9 n8 => ?_
     refine E_drawL (g := q8) (n := 9) [] [0, 1, 2, 3, 4, 5, 6, 7, 8] rfl mixed (by kernel_rfl) trivial ?_
     refine L_p up0 rfl rfl (P_move t5) ?_
     refine L_p (.int .i64 (o0)) rfl rfl (P_move j3) ?_
     refine L_p (ePtr up0 o0 2) rfl rfl (P_indexAddr (α := BoxPick) Try.underlying30 Try.sizeOf83 rfl j1 rfl v6) ?_
     refine L_ld (c := t8) rfl rfl .plain (fun _ _ h => h.ch) m8 rfl ?_
     refine L_p up1 rfl rfl (P_move x5) ?_
     refine L_p (.int .i64 (o0)) rfl rfl (P_move j3) ?_
     refine L_p (ePtr up1 o0 2) rfl rfl (P_indexAddr (α := BoxPick) Try.underlying30 Try.sizeOf83 rfl i3 rfl x6) ?_
     refine L_ld (c := y8) rfl rfl .plain (fun _ _ h => h.ch) n8 rfl ?_
     refine L_p (.bool ((!(decide (i6 = j6))))) rfl rfl (P_sne seq_83 rfl eg_83 rfl rfl v8 a9) ?_
     refine L_nl fun d9 gA hs => ?_
     have hfr := hfr.ext hs
     have j1 := j1.ext hs
     have i3 := i3.ext hs
     clear hs
     refine EL_nil (thn_n ?_)
     rcases csome h with ⟨u3, h⟩ | ⟨u3, h⟩
     ·refine E_ct u3 rfl ?_
      refine E_seq (E_region (EL_at (.bool false) rfl rfl ?_))
      refine EL_nil (thn_n (E_ret (blk_r ?_)))
      refine thn_r ?_
      refine thn_r ?_
      refine blk_r ?_
      refine thn_r ?_
      obtain rfl := sinj h
      exact end1 rfl rfl (show _ = .bool false from rfl) ⟨_, hfr, rfl⟩
     ·refine E_cf u3 rfl ?_
      exact E_skip (blk_n (thn_n (l8 () _ _ ⟨d9, hfr, t5, j1, x5, i3, j3⟩ h)))
    ·rintro _ i9 o9 ⟨o8, hfr, y6, a7, b7, c7, d7⟩ h
     refine E_region (EL_mv d7 rfl ?_)
     refine EL_in (.int .i64 ((w64 (o0 + (1 : Int))))) rfl rfl rfl rfl ?_
     refine EL_at (.int .i64 ((w64 (o0 + (1 : Int))))) rfl rfl ?_
     exact EL_nil (thn_n (i8 ((w64 (o0 + (1 : Int)))) _ _ ⟨o8, hfr, y6, a7, b7, c7, rfl⟩ h))
  ·rintro _ k9 t9 ⟨u9, hfr⟩ h
   refine E_seq (E_region (EL_at (.bool true) rfl rfl ?_))
   refine EL_nil (thn_n (E_ret ?_))
   obtain rfl := sinj h
   exact end1 rfl rfl (show _ = .bool true from rfl) ⟨_, hfr, rfl⟩
def f28 (x0 : List BoxPick) : Option ((List BoxPick)) :=
 (apnd 16 (([] : List BoxPick)) x0).bind fun y3 =>
 some (y3)
theorem en28 : Enters Try.prog 28 := enters_of Try.func28 (by kernel_rfl) rfl
theorem wk28 {gI : Gh} {wI : World} {x0 : List BoxPick} {up0 : Value} (rp0 : RV gI.m wI x0 up0) {r : (List BoxPick)} (h : f28 x0 = some r) : Fn Try.prog 28 #[up0] gI wI (fun m w v => RV m w (r) v) := by
 unfold f28 at h
 refine fn_of_E Try.func28 rfl (Nat.le_of_ble_eq_true rfl) fun g0 hm hfr => ?_
 have rp0 : RV g0.m wI x0 up0 := hm ▸ rp0
 show E _ 6 none _ _ _ _ _
 refine E_seq (E_region (EL_at (.slice none 0 0) rfl rfl ?_))
 refine EL_nil (thn_n (E_seq (E_region (EL_do .plain rfl (D_buildSlice (g := g0) 3003 (xs := ([] : List BoxPick)) (vs := []) Try.underlying30 Try.sizeOf83 Try.zeroValue83 rfl rfl .nil RVs.nil rfl rfl fun g1 w1 v1 hs o1 r1 hxt hfl => ?_)))))
 have hfr := hfr.stp hs
 have rp0 := rp0.stp hs
 refine EL_mw up0 rfl rfl ?_
 obtain ⟨y3, hy3, h⟩ := bsome h
 refine EL_do .plain rfl (D_append (g := g1) (i := 3003) Try.underlying30 info_83 rfl rfl o1 r1 rfl rp0 hy3 fun g2 w2 v2 hs o2 r2 _ => ?_)
 have hfr := hfr.stp hs
 refine EL_at v2 rfl rfl ?_
 refine EL_nil (thn_n (E_ret ?_))
 obtain rfl := sinj h
 exact end1 rfl rfl (show _ = v2 from rfl) ⟨_, hfr, r2⟩
def f42 (x0 : Int) (x1 : Int) : Option (Span) :=
 some ((⟨x0, x1⟩ : Span))
def f48  : Option (BoxLoom) :=
 (f42 ((2 : Int)) ((3 : Int))).bind fun y5 =>
 (f42 ((1 : Int)) ((1 : Int))).bind fun y8 =>
 (f42 ((9 : Int)) ((9 : Int))).bind fun y11 =>
 some ((⟨([(2 : Int), (2 : Int)] : List Int), ([(0 : Int), (0 : Int)] : List Int), ([(⟨(3 : Int), 0, 0, y5⟩ : BoxShuttle), (⟨(5 : Int), 0, (1 : Int), y8⟩ : BoxShuttle), (⟨(7 : Int), (1 : Int), (1 : Int), y11⟩ : BoxShuttle)] : List BoxShuttle)⟩ : BoxLoom))
def f49 (x0 : Int) (x1 : Int) : Option (BoxPick) :=
 some ((⟨x0, x1⟩ : BoxPick))
def f50 (x0 : BoxLoom) : Option (BoxLoom) :=
 (apnd 8 (([] : List Int)) ((x0).Boxes)).bind fun y7 =>
 (apnd 8 (([] : List Int)) ((x0).At)).bind fun j1 =>
 (apnd 40 (([] : List BoxShuttle)) ((x0).Shuttles)).bind fun i3 =>
 some ((⟨y7, j1, i3⟩ : BoxLoom))
theorem en50 : Enters Try.prog 50 := enters_of Try.func50 (by kernel_rfl) rfl
theorem wk50 {gI : Gh} {wI : World} {x0 : BoxLoom} {up0 : Value} (rp0 : RV gI.m wI x0 up0) {r : BoxLoom} (h : f50 x0 = some r) : Fn Try.prog 50 #[up0] gI wI (fun m w v => RV m w (r) v) := by
 unfold f50 at h
 refine fn_of_E Try.func50 rfl (Nat.le_of_ble_eq_true rfl) fun g0 hm hfr => ?_
 have rp0 : RV g0.m wI x0 up0 := hm ▸ rp0
 show E _ 16 none _ _ _ _ _
 refine E_seq (E_region (EL_do .plain rfl (D_box (g := g0) rfl rp0 fun g1 w1 p1 hs q1 => ?_)))
 have hfr := hfr.ext hs
 refine EL_do .plain rfl (D_allocOc (g := g1) 2002 (⟨[], [], []⟩ : BoxLoom) Try.zeroValue25 (fun m w => ⟨_, (rep_two rep_nil (rep_two rep_nil rep_nil)), rfl⟩) fun g2 w2 p2 hs b2 cb => ?_)
 have hfr := hfr.stp hs
 have q1 := q1.stp hs
 have l8 : OSF 2002 60200 0 g2 w2 3 25 ([] : List Int) p2 := cb.osf (by rfl)
 have m8 : OSF 2002 60201 1 g2 w2 3 25 ([] : List Int) p2 := cb.osf (by rfl)
 have n8 : OSF 2002 60202 2 g2 w2 87 25 ([] : List BoxShuttle) p2 := cb.osf (by rfl)
 clear cb
 refine EL_nil (thn_n (E_seq ?_))
 have q4 := PT_field (part_BoxLoom_0).1 q1
 refine L_load (x := .tmp 4) Try.isAgg22 Try.sizeOf22 q4 fun v5 r5 d7 => ?_
 obtain ⟨y7, g7, h⟩ := bsome h
 have q9 := PT_field (part_BoxLoom_1).1 q1
 refine L_load (x := .tmp 8) Try.isAgg22 Try.sizeOf22 q9 fun i7 j7 x6 => ?_
 obtain ⟨j1, y6, h⟩ := bsome h
 have m7 := PT_field (part_BoxLoom_2).1 q1
 refine L_load (x := .tmp 12) Try.isAgg23 Try.sizeOf23 m7 fun o7 u7 a7 => ?_
 obtain ⟨i3, b7, h⟩ := bsome h
 refine E_drawL (g := g2) (n := 12) [(0, (fun v g w => RV g.m w ([] : List Int) v ∧ OS 3003 g w 3 ([] : List Int) v ∧ FullV v)), (3, (fun v g w => RV g.m w y7 v ∧ OS 3003 g w 3 y7 v)), (4, (fun v g w => RV g.m w ([] : List Int) v ∧ OS 3007 g w 3 ([] : List Int) v ∧ FullV v)), (7, (fun v g w => RV g.m w j1 v ∧ OS 3007 g w 3 j1 v)), (8, (fun v g w => RV g.m w ([] : List BoxShuttle) v ∧ OS 3011 g w 87 ([] : List BoxShuttle) v ∧ FullV v)), (11, (fun v g w => RV g.m w i3 v ∧ OS 3011 g w 87 i3 v))] [0, 1, 2, 3, 4, 5, 6, 7, 8, 9, 10, 11] rfl mixed (by kernel_rfl) (⟨fun _ => up_and up_rv (up_and up_os (up_eq _)), fun _ => up_and up_rv up_os, fun _ => up_and up_rv (up_and up_os (up_eq _)), fun _ => up_and up_rv up_os, fun _ => up_and up_rv (up_and up_os (up_eq _)), fun _ => up_and up_rv up_os, trivial⟩) ?_
 refine L_do (φ := fun v g w => RV g.m w ([] : List Int) v ∧ OS 3003 g w 3 ([] : List Int) v ∧ FullV v) rfl rfl .plain (fun g w hd => D_buildSlice (g := g) 3003 (xs := ([] : List Int)) (vs := []) Try.underlying22 Try.sizeOf3 Try.zeroValue3 rfl rfl .nil RVs.nil rfl rfl fun g' w' v hs o r hxt hfl => ⟨g', hxt, r, o, hfl⟩) (fun v3 hv => ?_)
 clear hv
 refine L_p (fPtr p1 0) rfl rfl (P_fieldAddr at_25_0 rfl (PT.ptr q1)) ?_
 refine L_ld (c := v5) rfl rfl .plain (fun _ _ h => h.ch) d7 rfl ?_
 refine L_do (φ := fun v g w => RV g.m w y7 v ∧ OS 3003 g w 3 y7 v) rfl rfl .plain (fun g w hd => D_append (g := g) (i := 3003) Try.underlying22 info_3 rfl rfl (word (A := fun g w => RV g.m w ([] : List Int) v3 ∧ OS 3003 g w 3 ([] : List Int) v3 ∧ FullV v3) 0 rfl rfl (deps_of hd)).2.1 (word (A := fun g w => RV g.m w ([] : List Int) v3 ∧ OS 3003 g w 3 ([] : List Int) v3 ∧ FullV v3) 0 rfl rfl (deps_of hd)).1 rfl (r5.ext hd.1) g7 fun g' w' v hs o r hf => ⟨g', hf (word (A := fun g w => RV g.m w ([] : List Int) v3 ∧ OS 3003 g w 3 ([] : List Int) v3 ∧ FullV v3) 0 rfl rfl (deps_of hd)).2.2, r, o⟩) (fun v6 hv => ?_)
 clear hv
 refine L_do (φ := fun v g w => RV g.m w ([] : List Int) v ∧ OS 3007 g w 3 ([] : List Int) v ∧ FullV v) rfl rfl .plain (fun g w hd => D_buildSlice (g := g) 3007 (xs := ([] : List Int)) (vs := []) Try.underlying22 Try.sizeOf3 Try.zeroValue3 rfl rfl .nil RVs.nil rfl rfl fun g' w' v hs o r hxt hfl => ⟨g', hxt, r, o, hfl⟩) (fun v8 hv => ?_)
 clear hv
 refine L_p (fPtr p1 1) rfl rfl (P_fieldAddr at_25_1 rfl (PT.ptr q1)) ?_
 refine L_ld (c := i7) rfl rfl .plain (fun _ _ h => h.ch) x6 rfl ?_
 refine L_do (φ := fun v g w => RV g.m w j1 v ∧ OS 3007 g w 3 j1 v) rfl rfl .plain (fun g w hd => D_append (g := g) (i := 3007) Try.underlying22 info_3 rfl rfl (word (A := fun g w => RV g.m w ([] : List Int) v8 ∧ OS 3007 g w 3 ([] : List Int) v8 ∧ FullV v8) 4 rfl rfl (deps_of hd)).2.1 (word (A := fun g w => RV g.m w ([] : List Int) v8 ∧ OS 3007 g w 3 ([] : List Int) v8 ∧ FullV v8) 4 rfl rfl (deps_of hd)).1 rfl (j7.ext hd.1) y6 fun g' w' v hs o r hf => ⟨g', hf (word (A := fun g w => RV g.m w ([] : List Int) v8 ∧ OS 3007 g w 3 ([] : List Int) v8 ∧ FullV v8) 4 rfl rfl (deps_of hd)).2.2, r, o⟩) (fun j3 hv => ?_)
 clear hv
 refine L_do (φ := fun v g w => RV g.m w ([] : List BoxShuttle) v ∧ OS 3011 g w 87 ([] : List BoxShuttle) v ∧ FullV v) rfl rfl .plain (fun g w hd => D_buildSlice (g := g) 3011 (xs := ([] : List BoxShuttle)) (vs := []) Try.underlying23 Try.sizeOf87 Try.zeroValue87 rfl rfl .nil RVs.nil rfl rfl fun g' w' v hs o r hxt hfl => ⟨g', hxt, r, o, hfl⟩) (fun o0 hv => ?_)
 clear hv
 refine L_p (fPtr p1 2) rfl rfl (P_fieldAddr at_25_2 rfl (PT.ptr q1)) ?_
 refine L_ld (c := o7) rfl rfl .plain (fun _ _ h => h.ch) a7 rfl ?_
 refine L_do (φ := fun v g w => RV g.m w i3 v ∧ OS 3011 g w 87 i3 v) rfl rfl .plain (fun g w hd => D_append (g := g) (i := 3011) Try.underlying23 info_87 rfl rfl (word (A := fun g w => RV g.m w ([] : List BoxShuttle) o0 ∧ OS 3011 g w 87 ([] : List BoxShuttle) o0 ∧ FullV o0) 8 rfl rfl (deps_of hd)).2.1 (word (A := fun g w => RV g.m w ([] : List BoxShuttle) o0 ∧ OS 3011 g w 87 ([] : List BoxShuttle) o0 ∧ FullV o0) 8 rfl rfl (deps_of hd)).1 rfl (u7.ext hd.1) b7 fun g' w' v hs o r hf => ⟨g', hf (word (A := fun g w => RV g.m w ([] : List BoxShuttle) o0 ∧ OS 3011 g w 87 ([] : List BoxShuttle) o0 ∧ FullV o0) 8 rfl rfl (deps_of hd)).2.2, r, o⟩) (fun u3 hv => ?_)
 clear hv
 refine L_nil fun l5 o8 hall => ?_
 have hs := hall.1
 have hfr := hfr.ext hs
 have b2 := b2.ext hs
 have q8 := (word_all (A := fun g w => RV g.m w ([] : List Int) v3 ∧ OS 3003 g w 3 ([] : List Int) v3 ∧ FullV v3) 0 rfl hall).1
 have o22 := (word_all (A := fun g w => RV g.m w ([] : List Int) v3 ∧ OS 3003 g w 3 ([] : List Int) v3 ∧ FullV v3) 0 rfl hall).2.1
 have z4 := (word_all (A := fun g w => RV g.m w y7 v6 ∧ OS 3003 g w 3 y7 v6) 3 rfl hall).1
 have o25 := (word_all (A := fun g w => RV g.m w y7 v6 ∧ OS 3003 g w 3 y7 v6) 3 rfl hall).2
 have r8 := (word_all (A := fun g w => RV g.m w ([] : List Int) v8 ∧ OS 3007 g w 3 ([] : List Int) v8 ∧ FullV v8) 4 rfl hall).1
 have o26 := (word_all (A := fun g w => RV g.m w ([] : List Int) v8 ∧ OS 3007 g w 3 ([] : List Int) v8 ∧ FullV v8) 4 rfl hall).2.1
 have t5 := (word_all (A := fun g w => RV g.m w j1 j3 ∧ OS 3007 g w 3 j1 j3) 7 rfl hall).1
 have o29 := (word_all (A := fun g w => RV g.m w j1 j3 ∧ OS 3007 g w 3 j1 j3) 7 rfl hall).2
 have t8 := (word_all (A := fun g w => RV g.m w ([] : List BoxShuttle) o0 ∧ OS 3011 g w 87 ([] : List BoxShuttle) o0 ∧ FullV o0) 8 rfl hall).1
 have o30 := (word_all (A := fun g w => RV g.m w ([] : List BoxShuttle) o0 ∧ OS 3011 g w 87 ([] : List BoxShuttle) o0 ∧ FullV o0) 8 rfl hall).2.1
 have x5 := (word_all (A := fun g w => RV g.m w i3 u3 ∧ OS 3011 g w 87 i3 u3) 11 rfl hall).1
 have o33 := (word_all (A := fun g w => RV g.m w i3 u3 ∧ OS 3011 g w 87 i3 u3) 11 rfl hall).2
 clear hs hall
 have i6 : RV l5.m _ (⟨y7, j1, i3⟩ : BoxLoom) (.agg (setCh [[.slice none 0 0], [.slice none 0 0], [.slice none 0 0]] [(0, v6), (1, j3), (2, u3)]).flatten.toArray) := RV_build rfl (rep_pair (RV.cells z4) (rep_pair (RV.cells t5) (rep_last (RV.cells x5))))
 generalize i5 : (Value.agg (setCh [[.slice none 0 0], [.slice none 0 0], [.slice none 0 0]] [(0, v6), (1, j3), (2, u3)]).flatten.toArray) = j6 at i6
 refine EL_p j6 (i5 ▸ P_build (vs := [(0, v6), (1, j3), (2, u3)]) [[.slice none 0 0], [.slice none 0 0], [.slice none 0 0]] lay_25 rfl rfl (.cons rfl (.cons rfl (.cons rfl .nil))) ⟨⟨_, rfl, cells_size z4⟩, ⟨⟨_, rfl, cells_size t5⟩, ⟨⟨_, rfl, cells_size x5⟩, trivial⟩⟩⟩) rfl ?_
 refine EL_do .plain rfl (D_storeOc (g := l5) (v := j6) Try.sizeOf25 rfl b2 rfl i6 fun v7 c8 hs b35 cb => ?_)
 obtain ⟨g8, i8, z3, _, _⟩ := RV_list z4
 have k8 : OSF 2002 3003 0 v7 c8 3 25 (y7 : List Int) p2 := cb.osfv (by rw [← i5, z3]; rfl) (o25.stp hs rfl)
 clear cb
 have hfr := hfr.stp hs
 refine EL_nil (thn_n (E_ret ?_))
 obtain rfl := sinj h
 obtain ⟨ad36, cv36, hp36, c7, cr36⟩ := ob_read Try.isAgg25 Try.sizeOf25 b35
 exact endm_c rfl rfl ((show _ = p2 from rfl).trans hp36) c7 ⟨_, hfr, cr36⟩
def f53 (x0 : List Int) : Option ((List (List Int))) :=
 Option.bind (α := (List (List Int))) (
  lp (σ := (List (List Int)) × Int) (fun k19 (i5, o0) =>
   bif (decide (o0 < ((x0).length : Int))) then
    Option.bind (α := (List (List Int))) (
     (idx x0 o0).bind fun z4 =>
     (apnd 24 i5 (([([z4] : List Int)] : List (List Int)))).bind fun c8 =>
     some (c8)
     ) fun u3 =>
    k19 (u3, (w64 (o0 + (1 : Int))))
   else
    some (i5)
   ) big ([], (0 : Int))
  ) fun z3 =>
 some (z3)
def f54 (x0 : BoxBoxLoom) (x1 : Int → BoxShuttle → Option Int) : Option (BoxRace) :=
 Option.bind (α := BoxRace) (
  lp (σ := BoxRace × Int) (fun uA (t5, o0) =>
   bif (decide (o0 < ((((x0).BoxLoom).Shuttles).length : Int))) then
    Option.bind (α := BoxRace) (
     (idx (((x0).BoxLoom).Shuttles) o0).bind fun u3 =>
     (x1 o0 u3).bind fun a7 =>
     (idx ((t5).boxes).toList (u3).Side).bind fun o8 =>
     (idx (o8).toList (u3).Box).bind fun y158 =>
     some ({ t5 with boxes := (vmod ((t5).boxes) ((u3).Side) (fun b => (vset b ((u3).Box) a7))) })
     ) fun x5 =>
    uA (x5, (w64 (o0 + (1 : Int))))
   else
    some (t5)
   ) big ((⟨(⟨List.toArray [(⟨List.toArray [0, 0, 0, 0], rfl⟩ : Vector Int 4), (⟨List.toArray [0, 0, 0, 0], rfl⟩ : Vector Int 4)], rfl⟩ : Vector (Vector Int 4) 2), ⟨0, 0⟩⟩ : BoxRace), (0 : Int))
  ) fun y6 =>
 (idx (((x0).BoxLoom).At) (0 : Int)).bind fun z3 =>
 (idx (((x0).BoxLoom).At) (1 : Int)).bind fun z4 =>
 some ({ y6 with at_ := (⟨z3, z4⟩ : BoxPick) })
theorem en54 : Enters Try.prog 54 := enters_of Try.func54 (by kernel_rfl) rfl
theorem wk54 {gI : Gh} {wI : World} {x0 : BoxBoxLoom} {x1 : Int → BoxShuttle → Option Int} {up0 : Value} (rp0 : RV gI.m wI x0 up0) {up1 : Value} (rp1 : FnV2 Try.prog x1 up1 gI wI) {r : BoxRace} (h : f54 x0 x1 = some r) : Fn Try.prog 54 #[up0, up1] gI wI (fun m w v => RV m w (r) v) := by
 unfold f54 at h
 refine fn_of_E Try.func54 rfl (Nat.le_of_ble_eq_true rfl) fun g0 hm hfr => ?_
 have rp0 : RV g0.m wI x0 up0 := hm ▸ rp0
 obtain ⟨ff1, fa1, fc1, rfl, fen1, fcl1⟩ := rp1
 show E _ 41 none _ _ _ _ _
 refine E_seq (E_region (EL_do .plain rfl (D_box (g := g0) rfl rp0 fun g1 w1 p1 hs q1 => ?_)))
 have hfr := hfr.ext hs
 have rp0 := rp0.ext hs
 refine EL_do .plain rfl (D_allocOc (g := g1) 2004 (⟨(⟨List.toArray [(⟨List.toArray [0, 0, 0, 0], rfl⟩ : Vector Int 4), (⟨List.toArray [0, 0, 0, 0], rfl⟩ : Vector Int 4)], rfl⟩ : Vector (Vector Int 4) 2), ⟨0, 0⟩⟩ : BoxRace) Try.zeroValue108 (fun m w => ⟨_, (rep_two (rep_vec (flat_chunk (rep_vec (flat_chunk rep_int (flat_chunk rep_int (flat_chunk rep_int (flat_chunk rep_int flat_nil)))) rfl) (flat_chunk (rep_vec (flat_chunk rep_int (flat_chunk rep_int (flat_chunk rep_int (flat_chunk rep_int flat_nil)))) rfl) flat_nil)) rfl) (rep_two rep_int rep_int)), rfl⟩) fun g2 w2 p2 hs b2 cb => ?_)
 have hfr := hfr.stp hs
 have rp0 := rp0.stp hs
 have q1 := q1.stp hs
 clear cb
 refine EL_nil (thn_n ?_)
 obtain ⟨y6, hx, h⟩ := bsome h
 refine E_join (fun e w => ∃ (g : Gh) , Fr gI wI g w ∧ e 2 = p1 ∧ PT g.m w (x0 : BoxBoxLoom) p1 ∧ e 4 = p2 ∧ OB 2004 g w 108 (y6 : BoxRace) p2) (fun Q' hQ => ?_) (fun iC zA hR => ?_)
 ·replace h := hx
  clear hx
  refine E_seq (E_region (EL_p (fPtr p1 0) (P_fieldAddr at_102_0 rfl (PT.ptr q1)) rfl ?_))
  have xA := PT_field (part_BoxBoxLoom_0).1 q1
  refine EL_p (fPtr (fPtr p1 0) 2) (P_fieldAddr at_25_2 rfl (PT.ptr xA)) rfl ?_
  have eC := PT_field (part_BoxLoom_2).1 xA
  refine EL_do .plain rfl (D_load (g := g2) Try.isAgg23 Try.sizeOf23 rfl eC fun g7 yA => ?_)
  refine EL_p (.int .i64 ((((x0).BoxLoom).Shuttles).length : Int)) (P_len Try.underlying23 rfl yA) rfl ?_
  refine EL_mw (.int .i64 (0)) rfl rfl ?_
  refine EL_nil (thn_n (E_block ?_))
  refine E_lp h (fun (s : BoxRace × Int) e w => ∃ (g : Gh) , Fr gI wI g w ∧ e 1 = (.func (.func ff1) fa1 fc1) ∧ e 2 = p1 ∧ PT g.m w (x0 : BoxBoxLoom) p1 ∧ e 4 = p2 ∧ OB 2004 g w 108 (s.1 : BoxRace) p2 ∧ e 9 = g7 ∧ RV g.m w (((x0).BoxLoom).Shuttles : List BoxShuttle) g7 ∧ e 10 = .int .i64 (((((x0).BoxLoom).Shuttles).length : Int)) ∧ e 11 = .int .i64 (s.2)) ⟨g2, hfr, rfl, rfl, q1, rfl, b2, rfl, yA, rfl, rfl⟩ (fun X98 uA aB => ?_)
  rintro ⟨t5, o0⟩ kC iD ⟨q8, hfr, o7, u7, j3, b7, j1, v7, i3, i7, i6⟩ h
  refine E_seq (E_region (EL_p (.bool ((decide (o0 < ((((x0).BoxLoom).Shuttles).length : Int))))) (P_int i6 i7 rfl) rfl ?_))
  refine EL_nil (thn_n (E_seq ?_))
  rcases csome h with ⟨c7, h⟩ | ⟨c7, h⟩
  ·refine E_ct c7 rfl ?_
   refine E_skip (thn_n ?_)
   obtain ⟨x5, hx, h⟩ := bsome h
   refine E_join (fun e w => ∃ (g : Gh) , Fr gI wI g w ∧ e 1 = (.func (.func ff1) fa1 fc1) ∧ e 2 = p1 ∧ PT g.m w (x0 : BoxBoxLoom) p1 ∧ e 4 = p2 ∧ OB 2004 g w 108 (x5 : BoxRace) p2 ∧ e 9 = g7 ∧ RV g.m w (((x0).BoxLoom).Shuttles : List BoxShuttle) g7 ∧ e 10 = .int .i64 (((((x0).BoxLoom).Shuttles).length : Int)) ∧ e 11 = .int .i64 (o0)) (fun Q' hQ => ?_) (fun jC lC hR => ?_)
   ·replace h := hx
    clear hx
    refine E_block ?_
    refine E_seq (E_region (EL_mv i6 rfl ?_))
    obtain ⟨u3, c8, h⟩ := bsome h
    refine EL_p (ePtr g7 o0 5) (P_indexAddr (α := BoxShuttle) Try.underlying23 Try.sizeOf87 v7 i3 i6 c8) rfl ?_
    have i5 := PT_idx i3 c8
    refine EL_do .plain rfl (D_load (g := q8) Try.isAgg87 Try.sizeOf87 rfl i5 fun bB l5 => ?_)
    refine EL_do .plain rfl (D_allocOc (g := q8) 2006 (⟨0, 0, 0, ⟨0, 0⟩⟩ : BoxShuttle) Try.zeroValue87 (fun m w => ⟨_, (rep_two rep_int (rep_two rep_int (rep_two rep_int (rep_two rep_int rep_int)))), rfl⟩) fun cB mC r8 hs b146 cb => ?_)
    have hfr := hfr.stp hs
    have j3 := j3.stp hs
    have j1 := j1.stp hs rfl
    have i3 := i3.stp hs
    have i5 := i5.stp hs
    have l5 := l5.stp hs
    clear cb
    refine EL_at (.int .i64 (o0)) rfl rfl ?_
    refine EL_do .plain rfl (D_storeOc (g := cB) (v := bB) Try.sizeOf87 rfl b146 rfl l5 fun dB qC hs b147 cb => ?_)
    clear cb
    have hfr := hfr.stp hs
    have j3 := j3.stp hs
    have j1 := j1.stp hs rfl
    have i3 := i3.stp hs
    have i5 := i5.stp hs
    have l5 := l5.stp hs
    refine EL_nil (thn_n (L_loadO (x := .tmp 16) part_BoxShuttle_1.1 Try.isAgg3 Try.sizeOf3 b147 fun rC eB gA => ?_))
    obtain rfl := RV_int.1 eB
    refine L_loadO (x := .tmp 18) part_BoxShuttle_2.1 Try.isAgg3 Try.sizeOf3 b147 fun tC iB iA => ?_
    obtain rfl := RV_int.1 iB
    refine L_loadO0 (x := .tmp 6) Try.isAgg87 Try.sizeOf87 b147 fun t8 m7 jA => ?_
    obtain ⟨a7, lA, h⟩ := bsome h
    obtain ⟨o8, g8, h⟩ := bsome h
    obtain ⟨hi157, he157⟩ := vat_idx g8
    obtain ⟨y158, i8, h⟩ := bsome h
    obtain ⟨hi159, he159⟩ := vat_idx i8
    refine E_drawL (g := dB) (n := 11) [(7, (fun v g w => v = .int .i64 (a7)))] [0, 1, 2, 3, 4, 5, 6, 7, 8, 9, 10] rfl mixed (by kernel_rfl) (⟨fun _ => up_eq _, trivial⟩) ?_
    refine L_p (fPtr r8 1) rfl rfl (P_fieldAddr at_87_1 rfl (OB.ptr b147)) ?_
    refine L_ld (c := .int .i64 ((u3).Side)) rfl rfl .plain (fun _ _ h => ⟨h.ch, fun b hb _ => h.below.block b hb⟩) gA rfl ?_
    refine L_p (fPtr r8 2) rfl rfl (P_fieldAddr at_87_2 rfl (OB.ptr b147)) ?_
    refine L_ld (c := .int .i64 ((u3).Box)) rfl rfl .plain (fun _ _ h => ⟨h.ch, fun b hb _ => h.below.block b hb⟩) iA rfl ?_
    refine L_p ((.func (.func ff1) fa1 fc1)) rfl rfl (P_move o7) ?_
    refine L_p (.int .i64 (o0)) rfl rfl (P_move rfl) ?_
    refine L_ld (c := t8) rfl rfl .plain (fun _ _ h => ⟨h.ch, fun b hb _ => h.below.block b hb⟩) jA rfl ?_
    refine L_do (φ := fun v g w => v = .int .i64 (a7)) rfl rfl .plain (fun g w hd => D_callv (g := g) (vs := [.int .i64 (o0), t8]) rfl fen1 (.cons rfl (.cons rfl .nil)) (fcl1 _ _ (hfr.ext hd.1).ch _ _ _ _ _  (RV_int.2 rfl) (m7.ext hd.1) lA) fun g' w' v hs hr => ⟨g', hs, RV_int.1 hr⟩) (fun uC hv => ?_)
    obtain ⟨_, _, _, rfl⟩ := hv
    refine L_p (fPtr p2 0) rfl rfl (P_fieldAddr at_108_0 b7 (OB.ptr j1)) ?_
    refine L_p (fPtr p2 (0 + ((u3).Side : Int).toNat * 4)) rfl rfl (P_indexAddrA2 (α := Vector Int 4) (o1 := 0) rfl Try.underlying76 Try.sizeOf75 rfl (OB.ptr j1) rfl g8) ?_
    refine L_p (fPtr p2 ((0 + ((u3).Side : Int).toNat * 4) + ((u3).Box : Int).toNat * 1)) rfl rfl (P_indexAddrA2 (α := Int) (o1 := (0 + ((u3).Side : Int).toNat * 4)) rfl Try.underlying75 Try.sizeOf3 rfl (OB.ptr j1) rfl i8) ?_
    refine L_nl fun jB vC hs => ?_
    have hfr := hfr.ext hs
    have j3 := j3.ext hs
    have j1 := j1.ext hs
    have i3 := i3.ext hs
    have i5 := i5.ext hs
    have l5 := l5.ext hs
    have b147 := b147.ext hs
    have m7 := m7.ext hs
    clear hs
    refine EL_do .plain rfl (D_storeFc (g := jB) (SubS.at_ (SubS.comp part_BoxRace_0 (SubS.dynC hi157 (SubS.dyn hi159) rfl) rfl) (by first | rfl | exact Nat.add_assoc _ _ _ | simp only [Nat.add_assoc, Nat.zero_add] | omega)) Try.sizeOf3 rfl j1 rfl (RV_int.2 rfl) fun lB xC hs b184 rst hos => ?_)
    clear rst hos
    have hfr := hfr.stp hs
    have j3 := j3.stp hs
    have i3 := i3.stp hs
    refine EL_nil (blk_n ?_)
    obtain rfl := sinj h
    exact hQ _ _ ⟨lB, hfr, o7, u7, j3, b7, b184, v7, i3, i7, i6⟩
   ·clear hx
    obtain ⟨mB, hfr, v8, x8, y8, a9, d9, i9, k9, m8, n8⟩ := hR
    refine E_region (EL_in (.int .i64 ((w64 (o0 + (1 : Int))))) n8 rfl rfl rfl ?_)
    refine EL_mw (.int .i64 ((w64 (o0 + (1 : Int))))) rfl rfl ?_
    exact EL_nil (thn_n (aB (x5, (w64 (o0 + (1 : Int)))) _ _ ⟨mB, hfr, v8, x8, y8, a9, d9, i9, k9, m8, rfl⟩ h))
  ·refine E_cf c7 rfl ?_
   refine E_exit ?_
   refine thn_e ?_
   refine thn_e ?_
   refine blk_hit ?_
   obtain rfl := sinj h
   exact hQ _ _ ⟨q8, hfr, u7, j3, b7, j1⟩
 ·clear hx
  obtain ⟨l9, hfr, j7, j6, v6, x6⟩ := hR
  refine E_seq ?_
  have n9 := PT_field (part_BoxBoxLoom_0).1 j6
  have nB := PT_field (part_BoxLoom_1).1 n9
  refine L_load (x := .tmp 29) Try.isAgg22 Try.sizeOf22 nB fun o9 t9 mA => ?_
  obtain ⟨z3, k8, h⟩ := bsome h
  have oB := PT_idx t9 k8
  refine L_load (x := .tmp 31) Try.isAgg3 Try.sizeOf3 oB fun yC tB nA => ?_
  obtain rfl := RV_int.1 tB
  have u9 := PT_field (part_BoxBoxLoom_0).1 j6
  have vB := PT_field (part_BoxLoom_1).1 u9
  refine L_load (x := .tmp 34) Try.isAgg22 Try.sizeOf22 vB fun y9 z9 oA => ?_
  obtain ⟨z4, l8, h⟩ := bsome h
  have xB := PT_idx z9 l8
  refine L_load (x := .tmp 36) Try.isAgg3 Try.sizeOf3 xB fun aD yB pA => ?_
  obtain rfl := RV_int.1 yB
  have d7 : RV l9.m zA (⟨z3, z4⟩ : BoxPick) (.agg (setCh [[.int .i64 0], [.int .i64 0]] [(0, .int .i64 (z3)), (1, .int .i64 (z4))]).flatten.toArray) := RV_build rfl (rep_pair (rfl) (rep_last (rfl)))
  generalize qA : (Value.agg (setCh [[.int .i64 0], [.int .i64 0]] [(0, .int .i64 (z3)), (1, .int .i64 (z4))]).flatten.toArray) = zB at d7
  refine E_drawL (g := l9) (n := 12) [] [0, 1, 2, 3, 4, 5, 6, 7, 8, 9, 10, 11] rfl mixed (by kernel_rfl) trivial ?_
  refine L_p (fPtr p1 0) rfl rfl (P_fieldAddr at_102_0 j7 (PT.ptr j6)) ?_
  refine L_p (fPtr (fPtr p1 0) 1) rfl rfl (P_fieldAddr at_25_1 rfl (PT.ptr n9)) ?_
  refine L_ld (c := o9) rfl rfl .plain (fun _ _ h => h.ch) mA rfl ?_
  refine L_p (ePtr o9 (0 : Int) 1) rfl rfl (P_indexAddr (α := Int) Try.underlying22 Try.sizeOf3 rfl t9 rfl k8) ?_
  refine L_ld (c := .int .i64 (z3)) rfl rfl .plain (fun _ _ h => h.ch) nA rfl ?_
  refine L_p (fPtr p1 0) rfl rfl (P_fieldAddr at_102_0 j7 (PT.ptr j6)) ?_
  refine L_p (fPtr (fPtr p1 0) 1) rfl rfl (P_fieldAddr at_25_1 rfl (PT.ptr u9)) ?_
  refine L_ld (c := y9) rfl rfl .plain (fun _ _ h => h.ch) oA rfl ?_
  refine L_p (ePtr y9 (1 : Int) 1) rfl rfl (P_indexAddr (α := Int) Try.underlying22 Try.sizeOf3 rfl z9 rfl l8) ?_
  refine L_ld (c := .int .i64 (z4)) rfl rfl .plain (fun _ _ h => h.ch) pA rfl ?_
  refine L_p zB rfl rfl (qA ▸ P_build (vs := [(0, .int .i64 (z3)), (1, .int .i64 (z4))]) [[.int .i64 0], [.int .i64 0]] lay_83 rfl rfl (.cons rfl (.cons rfl .nil)) ⟨⟨_, rfl, rfl⟩, ⟨⟨_, rfl, rfl⟩, trivial⟩⟩) ?_
  refine L_p (fPtr p2 8) rfl rfl (P_fieldAddr at_108_1 v6 (OB.ptr x6)) ?_
  refine L_nl fun aC bD hs => ?_
  have hfr := hfr.ext hs
  have x6 := x6.ext hs
  have d7 := d7.ext hs
  clear hs
  refine EL_do .plain rfl (D_storeFc (g := aC) part_BoxRace_1 Try.sizeOf83 rfl x6 rfl d7 fun bA cD hs b216 rst hos => ?_)
  clear rst hos
  have hfr := hfr.stp hs
  refine EL_nil (thn_n (E_seq (E_region (EL_do .plain rfl (D_loadO (g := bA) Try.isAgg108 Try.sizeOf108 v6 b216 fun cC dC => ?_)))))
  refine EL_do .plain rfl (D_storeOc (g := bA) (v := cC) Try.sizeOf108 v6 b216 rfl dC fun eD gD hs b218 cb => ?_)
  clear cb
  have hfr := hfr.stp hs
  refine EL_nil (thn_n (E_ret ?_))
  obtain rfl := sinj h
  obtain ⟨ad219, cv219, hp219, rA, cr219⟩ := ob_read Try.isAgg108 Try.sizeOf108 b218
  exact endm_c rfl rfl ((show _ = p2 from v6).trans hp219) rA ⟨_, hfr, cr219⟩
def f55 (x0 : Int) (x1 : BoxShuttle) : Option (Int) :=
 some ((w64 ((x1).Colour + (1 : Int))))
def f59 (x0 : Int) (x1 : Int) (x2 : Int) : Option (Bool) :=
 Option.bind (α := Bool) (
  bif (decide (x0 ≥ x1)) then
   some ((decide (x0 ≤ x2)))
  else
   some (false)
  ) fun o0 =>
 some (o0)
theorem en59 : Enters Try.prog 59 := enters_of Try.func59 (by kernel_rfl) rfl
theorem wk59 {gI : Gh} {wI : World} {x0 : Int} {x1 : Int} {x2 : Int}  {r : Bool} (h : f59 x0 x1 x2 = some r) : Fn Try.prog 59 #[.int .i64 (x0), .int .i64 (x1), .int .i64 (x2)] gI wI (fun _ _ v => v = .bool (r)) := by
 unfold f59 at h
 refine fn_of_E Try.func59 rfl (Nat.le_of_ble_eq_true rfl) fun g0 hm hfr => ?_
 show E _ 15 none _ _ _ _ _
 refine E_seq (E_region (EL_at (.bool false) rfl rfl ?_))
 refine EL_nil (thn_n ?_)
 obtain ⟨o0, hx, h⟩ := bsome h
 refine E_join (fun e w => ∃ (g : Gh) , Fr gI wI g w ∧ e 6 = .bool (o0)) (fun Q' hQ => ?_) (fun i3 w3 hR => ?_)
 ·replace h := hx
  clear hx
  refine E_region (EL_mw (.int .i64 (x0)) rfl rfl ?_)
  refine EL_mw (.int .i64 (x1)) rfl rfl ?_
  refine EL_in (.bool ((decide (x0 ≥ x1)))) rfl rfl rfl rfl ?_
  refine EL_mw (.bool ((decide (x0 ≥ x1)))) rfl rfl ?_
  rcases csome h with ⟨hc2, h⟩ | ⟨hc2, h⟩
  ·refine EL_y (.int .i64 (x0)) (P_move rfl) rfl rfl hc2 rfl ?_
   refine EL_y (.int .i64 (x2)) (P_move rfl) rfl rfl hc2 rfl ?_
   refine EL_y (.bool ((decide (x0 ≤ x2)))) (P_int rfl rfl rfl) rfl rfl hc2 rfl ?_
   refine EL_p (.bool ((decide (x0 ≤ x2)))) (P_pick (b := (decide (x0 ≥ x1))) rfl (pick_t hc2 rfl)) rfl ?_
   refine EL_at (.bool ((decide (x0 ≤ x2)))) rfl rfl ?_
   refine EL_nil ?_
   obtain rfl := sinj h
   exact hQ _ _ ⟨g0, hfr, rfl⟩
  ·refine EL_s rfl rfl hc2 rfl rfl ?_
   refine EL_s rfl rfl hc2 rfl rfl ?_
   refine EL_s rfl rfl hc2 rfl rfl ?_
   refine EL_p (.bool false) (P_pick (b := (decide (x0 ≥ x1))) rfl (pick_f hc2 rfl)) rfl ?_
   refine EL_at (.bool false) rfl rfl ?_
   refine EL_nil ?_
   obtain rfl := sinj h
   exact hQ _ _ ⟨g0, hfr, rfl⟩
 ·clear hx
  obtain ⟨g3, hfr, j1⟩ := hR
  refine E_ret ?_
  obtain rfl := sinj h
  exact end1 rfl rfl (show _ = .bool (o0) from j1) ⟨_, hfr, rfl⟩
def f62 (x0 : List Int) : Option (Bool) :=
 some ((decide (((x0).length : Int) > (3 : Int))))
def f65 (x0 : BoxPoint) (x1 : List (List Int)) : Option (BoxPoint) :=
 Option.bind (α := BoxPoint) (
  lp (σ := BoxPoint) (fun u7 o0 =>
   jn (σ := Unit) (fun _ =>
    u7 ({ { o0 with group := (w64 ((o0).group + (1 : Int))) } with done := (0 : Int) })
    ) fun v7 =>
   Option.bind (α := Bool) (
    bif (decide ((o0).group < ((x1).length : Int))) then
     (idx x1 (o0).group).bind fun j7 =>
     (shl64 (1 : Int) ((j7).length : Int)).bind fun j6 =>
     some (((o0).done == (w64 (j6 - (1 : Int)))))
    else
     some (false)
    ) fun u3 =>
   bif u3 then
    v7 ()
   else
    some (o0)
   ) big (x0)
  ) fun v6 =>
 some (v6)
def f71 (x0 : Span) : Option (Int) :=
 some ((x0).Low)
def f72 (x0 : Span) : Option (Int) :=
 some ((x0).High)
def f75 (x0 : Int) (x1 : BoxShuttle) : Option (Int) :=
 some ((w64 (x0 + (1 : Int))))
theorem en75 : Enters Try.prog 75 := enters_of Try.func75 (by kernel_rfl) rfl
theorem wk75 {gI : Gh} {wI : World} {x0 : Int} {x1 : BoxShuttle} {up1 : Value} (rp1 : RV gI.m wI x1 up1) {r : Int} (h : f75 x0 x1 = some r) : Fn Try.prog 75 #[.int .i64 (x0), up1] gI wI (fun _ _ v => v = .int .i64 (r)) := by
 unfold f75 at h
 refine fn_of_E Try.func75 rfl (Nat.le_of_ble_eq_true rfl) fun g0 hm hfr => ?_
 have rp1 : RV g0.m wI x1 up1 := hm ▸ rp1
 show E _ 7 none _ _ _ _ _
 refine E_seq (E_region (EL_do .plain rfl (D_box (g := g0) rfl rp1 fun g1 w1 p1 hs q1 => ?_)))
 have hfr := hfr.ext hs
 refine EL_at (.int .i64 (0)) rfl rfl ?_
 refine EL_nil (thn_n (E_seq (E_region (EL_mw (.int .i64 (x0)) rfl rfl ?_))))
 refine EL_in (.int .i64 ((w64 (x0 + (1 : Int))))) rfl rfl rfl rfl ?_
 refine EL_at (.int .i64 ((w64 (x0 + (1 : Int))))) rfl rfl ?_
 refine EL_nil (thn_n (E_ret ?_))
 obtain rfl := sinj h
 exact end1 rfl rfl (show _ = .int .i64 ((w64 (x0 + (1 : Int)))) from rfl) ⟨_, hfr, rfl⟩
def f77 (x0 : BoxLoom) (x1 : BoxLoom) : Option (Bool) :=
 jn (σ := Unit) (fun _ =>
  some (true)
  ) fun q8 =>
 lp (σ := Int) (fun r8 o0 =>
  jn (σ := Unit) (fun _ =>
   jn (σ := Unit) (fun _ =>
    r8 ((w64 (o0 + (1 : Int))))
    ) fun t8 =>
   Option.bind (α := Bool) (
    (idx ((x0).Shuttles) o0).bind fun z3 =>
    (idx ((x1).Shuttles) o0).bind fun z4 =>
    bif ((z3).Side != (z4).Side) then
     some (true)
    else
     (idx ((x0).Shuttles) o0).bind fun j6 =>
     (idx ((x1).Shuttles) o0).bind fun v6 =>
     some (((j6).Box != (v6).Box))
    ) fun i5 =>
   bif i5 then
    some (false)
   else
    t8 ()
   ) fun v8 =>
  bif (decide (o0 < (((x0).Shuttles).length : Int))) then
   v8 ()
  else
   q8 ()
  ) big ((0 : Int))
theorem en77 : Enters Try.prog 77 := enters_of Try.func77 (by kernel_rfl) rfl
theorem wk77 {gI : Gh} {wI : World} {x0 : BoxLoom} {x1 : BoxLoom} {up0 : Value} (rp0 : RV gI.m wI x0 up0) {up1 : Value} (rp1 : RV gI.m wI x1 up1) {r : Bool} (h : f77 x0 x1 = some r) : Fn Try.prog 77 #[up0, up1] gI wI (fun _ _ v => v = .bool (r)) := by
 unfold f77 at h
 refine fn_of_E Try.func77 rfl (Nat.le_of_ble_eq_true rfl) fun g0 hm hfr => ?_
 have rp0 : RV g0.m wI x0 up0 := hm ▸ rp0
 have rp1 : RV g0.m wI x1 up1 := hm ▸ rp1
 show E _ 41 none _ _ _ _ _
 refine E_seq (E_region (EL_do .plain rfl (D_box (g := g0) rfl rp0 fun g1 w1 p1 hs q1 => ?_)))
 have hfr := hfr.ext hs
 have rp1 := rp1.ext hs
 refine EL_do .plain rfl (D_box (g := g1) rfl rp1 fun g2 w2 p2 hs q2 => ?_)
 have hfr := hfr.ext hs
 have q1 := q1.ext hs
 refine EL_at (.bool false) rfl rfl ?_
 refine EL_nil (thn_n (E_joinC h (fun (s : Unit) e w => ∃ (g : Gh) , Fr gI wI g w) (fun X376 q8 lA h => ?_) ?_))
 ·refine E_seq (E_region (EL_at (.int .i64 (0)) rfl rfl ?_))
  refine EL_nil (thn_n (E_block ?_))
  refine E_lp h (fun (s : Int) e w => ∃ (g : Gh) , Fr gI wI g w ∧ e 2 = p1 ∧ PT g.m w (x0 : BoxLoom) p1 ∧ e 3 = p2 ∧ PT g.m w (x1 : BoxLoom) p2 ∧ e 5 = .int .i64 (s)) ⟨g2, hfr, rfl, q1, rfl, q2, rfl⟩ (fun X377 r8 mA => ?_)
  rintro o0 zB iC ⟨j7, hfr, g7, x6, x8, y8, i7⟩ h
  refine E_joinC h (fun (s : Unit) e w => ∃ (g : Gh) , Fr gI wI g w ∧ e 2 = p1 ∧ PT g.m w (x0 : BoxLoom) p1 ∧ e 3 = p2 ∧ PT g.m w (x1 : BoxLoom) p2 ∧ e 5 = .int .i64 (o0)) (fun X382 v8 nA h => ?_) ?_
  ·refine E_seq (E_region (EL_mv i7 rfl ?_))
   refine EL_p (fPtr p1 2) (P_fieldAddr at_25_2 g7 (PT.ptr x6)) rfl ?_
   have xA := PT_field (part_BoxLoom_2).1 x6
   refine EL_do .plain rfl (D_load (g := j7) Try.isAgg23 Try.sizeOf23 rfl xA fun jC yA => ?_)
   refine EL_p (.int .i64 (((x0).Shuttles).length : Int)) (P_len Try.underlying23 rfl yA) rfl ?_
   refine EL_p (.bool ((decide (o0 < (((x0).Shuttles).length : Int))))) (P_int rfl rfl rfl) rfl ?_
   refine EL_nil (thn_n ?_)
   rcases csome h with ⟨a7, h⟩ | ⟨a7, h⟩
   ·refine E_ct a7 rfl ?_
    exact E_skip (thn_n (nA () _ _ ⟨j7, hfr, g7, x6, x8, y8, i7⟩ h))
   ·refine E_cf a7 rfl ?_
    refine E_exit ?_
    refine thn_e ?_
    refine thn_e ?_
    refine blk_hit ?_
    exact thn_n (lA () _ _ ⟨j7, hfr⟩ h)
  ·rintro _ aC kC ⟨a9, hfr, l5, i3, t5, j3, u3⟩ h
   refine E_joinC h (fun (s : Unit) e w => ∃ (g : Gh) , Fr gI wI g w ∧ e 2 = p1 ∧ PT g.m w (x0 : BoxLoom) p1 ∧ e 3 = p2 ∧ PT g.m w (x1 : BoxLoom) p2 ∧ e 5 = .int .i64 (o0)) (fun X567 t8 oA h => ?_) ?_
   ·refine E_block ?_
    obtain ⟨i5, hx, h⟩ := bsome h
    refine E_join (fun e w => ∃ (g : Gh) , Fr gI wI g w ∧ e 2 = p1 ∧ PT g.m w (x0 : BoxLoom) p1 ∧ e 3 = p2 ∧ PT g.m w (x1 : BoxLoom) p2 ∧ e 5 = .int .i64 (o0) ∧ e 40 = .bool (i5)) (fun Q' hQ => ?_) (fun cC lC hR => ?_)
    ·replace h := hx
     clear hx
     have zA := PT_field (part_BoxLoom_2).1 i3
     refine L_load (x := .tmp 13) Try.isAgg23 Try.sizeOf23 zA fun x5 m7 i8 => ?_
     obtain ⟨z3, b7, h⟩ := bsome h
     have o7 := PT_idx m7 b7
     have aB := PT_field (part_BoxShuttle_1).1 o7
     refine L_load (x := .tmp 17) Try.isAgg3 Try.sizeOf3 aB fun mC bB k8 => ?_
     obtain rfl := RV_int.1 bB
     have cB := PT_field (part_BoxLoom_2).1 j3
     refine L_load (x := .tmp 19) Try.isAgg23 Try.sizeOf23 cB fun i6 u7 l8 => ?_
     obtain ⟨z4, c7, h⟩ := bsome h
     have v7 := PT_idx u7 c7
     have dB := PT_field (part_BoxShuttle_1).1 v7
     refine L_load (x := .tmp 23) Try.isAgg3 Try.sizeOf3 dB fun qC eB m8 => ?_
     obtain rfl := RV_int.1 eB
     rcases csome h with ⟨j1, h⟩ | ⟨j1, h⟩
     ·refine E_drawL (g := a9) (n := 28) [] [0, 1, 2, 3, 4, 5, 6, 7, 8, 9, 10, 11, 12, 13, 14, 15, 16, 17, 18, 19, 20, 21, 22, 23, 24, 25, 26, 27] rfl mixed (by kernel_rfl) trivial ?_
      refine L_p (fPtr p1 2) rfl rfl (P_fieldAddr at_25_2 l5 (PT.ptr i3)) ?_
      refine L_ld (c := x5) rfl rfl .plain (fun _ _ h => h.ch) i8 rfl ?_
      refine L_p (.int .i64 (o0)) rfl rfl (P_move u3) ?_
      refine L_p (ePtr x5 o0 5) rfl rfl (P_indexAddr (α := BoxShuttle) Try.underlying23 Try.sizeOf87 rfl m7 rfl b7) ?_
      refine L_p (fPtr (ePtr x5 o0 5) 1) rfl rfl (P_fieldAddr at_87_1 rfl (PT.ptr o7)) ?_
      refine L_ld (c := .int .i64 ((z3).Side)) rfl rfl .plain (fun _ _ h => h.ch) k8 rfl ?_
      refine L_p (fPtr p2 2) rfl rfl (P_fieldAddr at_25_2 t5 (PT.ptr j3)) ?_
      refine L_ld (c := i6) rfl rfl .plain (fun _ _ h => h.ch) l8 rfl ?_
      refine L_p (.int .i64 (o0)) rfl rfl (P_move u3) ?_
      refine L_p (ePtr i6 o0 5) rfl rfl (P_indexAddr (α := BoxShuttle) Try.underlying23 Try.sizeOf87 rfl u7 rfl c7) ?_
      refine L_p (fPtr (ePtr i6 o0 5) 1) rfl rfl (P_fieldAddr at_87_1 rfl (PT.ptr v7)) ?_
      refine L_ld (c := .int .i64 ((z4).Side)) rfl rfl .plain (fun _ _ h => h.ch) m8 rfl ?_
      refine L_p (.bool (((z3).Side != (z4).Side))) rfl rfl (P_int rfl rfl rfl) ?_
      refine L_p (.bool (((z3).Side != (z4).Side))) rfl rfl (P_move rfl) ?_
      iterate 13 refine L_s rfl rfl rfl j1 rfl ?_
      refine L_p (.bool true) rfl rfl (P_pick (b := ((z3).Side != (z4).Side)) rfl (pick_t j1 rfl)) ?_
      refine L_nl fun iB rC hs => ?_
      have hfr := hfr.ext hs
      have i3 := i3.ext hs
      have j3 := j3.ext hs
      clear hs
      refine EL_nil ?_
      obtain rfl := sinj h
      exact hQ _ _ ⟨iB, hfr, l5, i3, t5, j3, u3, rfl⟩
     ·have jB := PT_field (part_BoxLoom_2).1 i3
      refine L_load (x := .tmp 27) Try.isAgg23 Try.sizeOf23 jB fun c8 d9 pA => ?_
      obtain ⟨j6, n8, h⟩ := bsome h
      have i9 := PT_idx d9 n8
      have lB := PT_field (part_BoxShuttle_2).1 i9
      refine L_load (x := .tmp 31) Try.isAgg3 Try.sizeOf3 lB fun tC mB qA => ?_
      obtain rfl := RV_int.1 mB
      have nB := PT_field (part_BoxLoom_2).1 j3
      refine L_load (x := .tmp 33) Try.isAgg23 Try.sizeOf23 nB fun g8 k9 rA => ?_
      obtain ⟨v6, o8, h⟩ := bsome h
      have l9 := PT_idx k9 o8
      have oB := PT_field (part_BoxShuttle_2).1 l9
      refine L_load (x := .tmp 37) Try.isAgg3 Try.sizeOf3 oB fun uC tB uA => ?_
      obtain rfl := RV_int.1 tB
      refine E_drawL (g := a9) (n := 28) [] [0, 1, 2, 3, 4, 5, 6, 7, 8, 9, 10, 11, 12, 13, 14, 15, 16, 17, 18, 19, 20, 21, 22, 23, 24, 25, 26, 27] rfl mixed (by kernel_rfl) trivial ?_
      refine L_p (fPtr p1 2) rfl rfl (P_fieldAddr at_25_2 l5 (PT.ptr i3)) ?_
      refine L_ld (c := x5) rfl rfl .plain (fun _ _ h => h.ch) i8 rfl ?_
      refine L_p (.int .i64 (o0)) rfl rfl (P_move u3) ?_
      refine L_p (ePtr x5 o0 5) rfl rfl (P_indexAddr (α := BoxShuttle) Try.underlying23 Try.sizeOf87 rfl m7 rfl b7) ?_
      refine L_p (fPtr (ePtr x5 o0 5) 1) rfl rfl (P_fieldAddr at_87_1 rfl (PT.ptr o7)) ?_
      refine L_ld (c := .int .i64 ((z3).Side)) rfl rfl .plain (fun _ _ h => h.ch) k8 rfl ?_
      refine L_p (fPtr p2 2) rfl rfl (P_fieldAddr at_25_2 t5 (PT.ptr j3)) ?_
      refine L_ld (c := i6) rfl rfl .plain (fun _ _ h => h.ch) l8 rfl ?_
      refine L_p (.int .i64 (o0)) rfl rfl (P_move u3) ?_
      refine L_p (ePtr i6 o0 5) rfl rfl (P_indexAddr (α := BoxShuttle) Try.underlying23 Try.sizeOf87 rfl u7 rfl c7) ?_
      refine L_p (fPtr (ePtr i6 o0 5) 1) rfl rfl (P_fieldAddr at_87_1 rfl (PT.ptr v7)) ?_
      refine L_ld (c := .int .i64 ((z4).Side)) rfl rfl .plain (fun _ _ h => h.ch) m8 rfl ?_
      refine L_p (.bool (((z3).Side != (z4).Side))) rfl rfl (P_int rfl rfl rfl) ?_
      refine L_p (.bool (((z3).Side != (z4).Side))) rfl rfl (P_move rfl) ?_
      refine L_y (fPtr p1 2) rfl rfl rfl rfl j1 (P_fieldAddr at_25_2 l5 (PT.ptr i3)) ?_
      refine L_ld (c := c8) rfl rfl (.yes2 rfl rfl j1) (fun _ _ h => h.ch) pA rfl ?_
      refine L_y (.int .i64 (o0)) rfl rfl rfl rfl j1 (P_move u3) ?_
      refine L_y (ePtr c8 o0 5) rfl rfl rfl rfl j1 (P_indexAddr (α := BoxShuttle) Try.underlying23 Try.sizeOf87 rfl d9 rfl n8) ?_
      refine L_y (fPtr (ePtr c8 o0 5) 2) rfl rfl rfl rfl j1 (P_fieldAddr at_87_2 rfl (PT.ptr i9)) ?_
      refine L_ld (c := .int .i64 ((j6).Box)) rfl rfl (.yes2 rfl rfl j1) (fun _ _ h => h.ch) qA rfl ?_
      refine L_y (fPtr p2 2) rfl rfl rfl rfl j1 (P_fieldAddr at_25_2 t5 (PT.ptr j3)) ?_
      refine L_ld (c := g8) rfl rfl (.yes2 rfl rfl j1) (fun _ _ h => h.ch) rA rfl ?_
      refine L_y (.int .i64 (o0)) rfl rfl rfl rfl j1 (P_move u3) ?_
      refine L_y (ePtr g8 o0 5) rfl rfl rfl rfl j1 (P_indexAddr (α := BoxShuttle) Try.underlying23 Try.sizeOf87 rfl k9 rfl o8) ?_
      refine L_y (fPtr (ePtr g8 o0 5) 2) rfl rfl rfl rfl j1 (P_fieldAddr at_87_2 rfl (PT.ptr l9)) ?_
      refine L_ld (c := .int .i64 ((v6).Box)) rfl rfl (.yes2 rfl rfl j1) (fun _ _ h => h.ch) uA rfl ?_
      refine L_y (.bool (((j6).Box != (v6).Box))) rfl rfl rfl rfl j1 (P_int rfl rfl rfl) ?_
      refine L_p (.bool (((j6).Box != (v6).Box))) rfl rfl (P_pick (b := ((z3).Side != (z4).Side)) rfl (pick_f j1 rfl)) ?_
      refine L_nl fun vB vC hs => ?_
      have hfr := hfr.ext hs
      have i3 := i3.ext hs
      have j3 := j3.ext hs
      clear hs
      refine EL_nil ?_
      obtain rfl := sinj h
      exact hQ _ _ ⟨vB, hfr, l5, i3, t5, j3, u3, rfl⟩
    ·clear hx
     obtain ⟨xB, hfr, n9, o9, t9, u9, y9, y6⟩ := hR
     rcases csome h with ⟨d7, h⟩ | ⟨d7, h⟩
     ·refine E_cond_true (Eq.trans (show ev _ _ = .bool (i5) from y6) (congrArg Value.bool d7)) ?_
      refine E_seq (E_region (EL_at (.bool false) rfl rfl ?_))
      refine EL_nil (thn_n (E_ret (blk_r ?_)))
      refine thn_r ?_
      refine thn_r ?_
      refine blk_r ?_
      refine thn_r ?_
      obtain rfl := sinj h
      exact end1 rfl rfl (show _ = .bool false from rfl) ⟨_, hfr, rfl⟩
     ·refine E_cond_false (Eq.trans (show ev _ _ = .bool (i5) from y6) (congrArg Value.bool d7)) ?_
      exact E_skip (blk_n (thn_n (oA () _ _ ⟨xB, hfr, n9, o9, t9, u9, y9⟩ h)))
   ·rintro _ dC xC ⟨yB, hfr, z9, bA, gA, iA, jA⟩ h
    refine E_region (EL_mv jA rfl ?_)
    refine EL_in (.int .i64 ((w64 (o0 + (1 : Int))))) rfl rfl rfl rfl ?_
    refine EL_at (.int .i64 ((w64 (o0 + (1 : Int))))) rfl rfl ?_
    exact EL_nil (thn_n (mA ((w64 (o0 + (1 : Int)))) _ _ ⟨yB, hfr, z9, bA, gA, iA, rfl⟩ h))
 ·rintro _ eC yC ⟨aD, hfr⟩ h
  refine E_seq (E_region (EL_at (.bool true) rfl rfl ?_))
  refine EL_nil (thn_n (E_ret ?_))
  obtain rfl := sinj h
  exact end1 rfl rfl (show _ = .bool true from rfl) ⟨_, hfr, rfl⟩
def f88 (x0 : BoxPoint) (x1 : List (List Int)) (x2 : BoxStep) : Option (BoxPoint × Bool) :=
 jn (σ := BoxPoint × BoxPoint) (fun (l8, o9) =>
  some (l8, false)
  ) fun t9 =>
 (idx x1 (x0).group).bind fun z3 =>
 lp (σ := BoxPoint × BoxPoint × Int) (fun u9 (j1, l5, o0) =>
  bif (decide (o0 < ((z3).length : Int))) then
   jn (σ := BoxPoint × BoxPoint) (fun (i7, j7) =>
    u9 (i7, j7, (w64 (o0 + (1 : Int))))
    ) fun y9 =>
   (idx z3 o0).bind fun i6 =>
   Option.bind (α := Bool) (
    bif (i6 == (x2).colour) then
     (shr64 (j1).done o0).bind fun y180 =>
     some (((bit64 .and y180 (1 : Int)) == (0 : Int)))
    else
     some (false)
    ) fun t5 =>
   bif t5 then
    (shl64 (1 : Int) o0).bind fun g8 =>
    (f65 ({ { j1 with done := (bit64 .or (j1).done g8) } with race := (x2).next }) x1).bind fun z9 =>
    some (z9, true)
   else
    y9 (j1, l5)
  else
   t9 (j1, l5)
  ) big (x0, (⟨0, 0, ⟨(⟨List.toArray [(⟨List.toArray [0, 0, 0, 0], rfl⟩ : Vector Int 4), (⟨List.toArray [0, 0, 0, 0], rfl⟩ : Vector Int 4)], rfl⟩ : Vector (Vector Int 4) 2), ⟨0, 0⟩⟩⟩ : BoxPoint), (0 : Int))
def f89 (x0 : BoxLoom) (x1 : Int) (x2 : Int) : Option (Int) :=
 jn (σ := Unit) (fun _ =>
  some ((-1 : Int))
  ) fun y8 =>
 lp (σ := Int) (fun a9 o0 =>
  jn (σ := Unit) (fun _ =>
   jn (σ := Unit) (fun _ =>
    a9 ((w64 (o0 + (1 : Int))))
    ) fun g7 =>
   Option.bind (α := Bool) (
    (idx ((x0).Shuttles) o0).bind fun u3 =>
    bif ((u3).Side == x1) then
     (idx ((x0).Shuttles) o0).bind fun t5 =>
     some (((t5).Box == x2))
    else
     some (false)
    ) fun i3 =>
   bif i3 then
    some (o0)
   else
    g7 ()
   ) fun d9 =>
  bif (decide (o0 < (((x0).Shuttles).length : Int))) then
   d9 ()
  else
   y8 ()
  ) big ((0 : Int))
theorem en89 : Enters Try.prog 89 := enters_of Try.func89 (by kernel_rfl) rfl
theorem wk89 {gI : Gh} {wI : World} {x0 : BoxLoom} {x1 : Int} {x2 : Int} {up0 : Value} (rp0 : RV gI.m wI x0 up0) {r : Int} (h : f89 x0 x1 x2 = some r) : Fn Try.prog 89 #[up0, .int .i64 (x1), .int .i64 (x2)] gI wI (fun _ _ v => v = .int .i64 (r)) := by
 unfold f89 at h
 refine fn_of_E Try.func89 rfl (Nat.le_of_ble_eq_true rfl) fun g0 hm hfr => ?_
 have rp0 : RV g0.m wI x0 up0 := hm ▸ rp0
 show E _ 34 none _ _ _ _ _
 refine E_seq (E_region (EL_do .plain rfl (D_box (g := g0) rfl rp0 fun g1 w1 p1 hs q1 => ?_)))
 have hfr := hfr.ext hs
 refine EL_at (.int .i64 (0)) rfl rfl ?_
 refine EL_nil (thn_n (E_joinC h (fun (s : Unit) e w => ∃ (g : Gh) , Fr gI wI g w) (fun X71 y8 i9 h => ?_) ?_))
 ·refine E_seq (E_region (EL_at (.int .i64 (0)) rfl rfl ?_))
  refine EL_nil (thn_n (E_block ?_))
  refine E_lp h (fun (s : Int) e w => ∃ (g : Gh) , Fr gI wI g w ∧ e 1 = .int .i64 (x1) ∧ e 2 = .int .i64 (x2) ∧ e 3 = p1 ∧ PT g.m w (x0 : BoxLoom) p1 ∧ e 7 = .int .i64 (s)) ⟨g1, hfr, rfl, rfl, rfl, q1, rfl⟩ (fun X72 a9 k9 => ?_)
  rintro o0 oA aB ⟨i7, hfr, t8, v8, a7, x5, b7⟩ h
  refine E_joinC h (fun (s : Unit) e w => ∃ (g : Gh) , Fr gI wI g w ∧ e 1 = .int .i64 (x1) ∧ e 2 = .int .i64 (x2) ∧ e 3 = p1 ∧ PT g.m w (x0 : BoxLoom) p1 ∧ e 7 = .int .i64 (o0)) (fun X77 d9 l9 h => ?_) ?_
  ·refine E_seq (E_region (EL_mv b7 rfl ?_))
   refine EL_p (fPtr p1 2) (P_fieldAddr at_25_2 a7 (PT.ptr x5)) rfl ?_
   have iA := PT_field (part_BoxLoom_2).1 x5
   refine EL_do .plain rfl (D_load (g := i7) Try.isAgg23 Try.sizeOf23 rfl iA fun bB jA => ?_)
   refine EL_p (.int .i64 (((x0).Shuttles).length : Int)) (P_len Try.underlying23 rfl jA) rfl ?_
   refine EL_p (.bool ((decide (o0 < (((x0).Shuttles).length : Int))))) (P_int rfl rfl rfl) rfl ?_
   refine EL_nil (thn_n ?_)
   rcases csome h with ⟨y6, h⟩ | ⟨y6, h⟩
   ·refine E_ct y6 rfl ?_
    exact E_skip (thn_n (l9 () _ _ ⟨i7, hfr, t8, v8, a7, x5, b7⟩ h))
   ·refine E_cf y6 rfl ?_
    refine E_exit ?_
    refine thn_e ?_
    refine thn_e ?_
    refine blk_hit ?_
    exact thn_n (i9 () _ _ ⟨i7, hfr⟩ h)
  ·rintro _ pA cB ⟨i5, hfr, i6, j6, z3, j3, z4⟩ h
   refine E_joinC h (fun (s : Unit) e w => ∃ (g : Gh) , Fr gI wI g w ∧ e 1 = .int .i64 (x1) ∧ e 2 = .int .i64 (x2) ∧ e 3 = p1 ∧ PT g.m w (x0 : BoxLoom) p1 ∧ e 7 = .int .i64 (o0)) (fun X110 g7 x8 h => ?_) ?_
   ·refine E_block ?_
    obtain ⟨i3, hx, h⟩ := bsome h
    refine E_join (fun e w => ∃ (g : Gh) , Fr gI wI g w ∧ e 1 = .int .i64 (x1) ∧ e 2 = .int .i64 (x2) ∧ e 3 = p1 ∧ PT g.m w (x0 : BoxLoom) p1 ∧ e 7 = .int .i64 (o0) ∧ e 32 = .bool (i3)) (fun Q' hQ => ?_) (fun lA qA hR => ?_)
    ·replace h := hx
     clear hx
     refine E_region (EL_p (fPtr p1 2) (P_fieldAddr at_25_2 z3 (PT.ptr j3)) rfl ?_)
     have n9 := PT_field (part_BoxLoom_2).1 j3
     refine EL_do .plain rfl (D_load (g := i5) Try.isAgg23 Try.sizeOf23 rfl n9 fun j7 m7 => ?_)
     refine EL_mv z4 rfl ?_
     obtain ⟨u3, c7, h⟩ := bsome h
     refine EL_p (ePtr j7 o0 5) (P_indexAddr (α := BoxShuttle) Try.underlying23 Try.sizeOf87 rfl m7 rfl c7) rfl ?_
     have o7 := PT_idx m7 c7
     refine EL_p (fPtr (ePtr j7 o0 5) 1) (P_fieldAddr at_87_1 rfl (PT.ptr o7)) rfl ?_
     have o9 := PT_field (part_BoxShuttle_1).1 o7
     refine EL_do .plain rfl (D_load (g := i5) Try.isAgg3 Try.sizeOf3 rfl o9 fun rA t9 => ?_)
     obtain rfl := RV_int.1 t9
     refine EL_mv i6 rfl ?_
     refine EL_in (.bool (((u3).Side == x1))) rfl rfl rfl rfl ?_
     refine EL_mw (.bool (((u3).Side == x1))) rfl rfl ?_
     rcases csome h with ⟨j1, h⟩ | ⟨j1, h⟩
     ·refine EL_y (fPtr p1 2) (P_fieldAddr at_25_2 z3 (PT.ptr j3)) rfl rfl j1 rfl ?_
      have u9 := PT_field (part_BoxLoom_2).1 j3
      refine EL_do (.yes2 rfl rfl j1) rfl (D_load (g := i5) Try.isAgg23 Try.sizeOf23 rfl u9 fun u7 v7 => ?_)
      refine EL_y (.int .i64 (o0)) (P_move z4) rfl rfl j1 rfl ?_
      obtain ⟨t5, d7, h⟩ := bsome h
      refine EL_y (ePtr u7 o0 5) (P_indexAddr (α := BoxShuttle) Try.underlying23 Try.sizeOf87 rfl v7 rfl d7) rfl rfl j1 rfl ?_
      have c8 := PT_idx v7 d7
      refine EL_y (fPtr (ePtr u7 o0 5) 2) (P_fieldAddr at_87_2 rfl (PT.ptr c8)) rfl rfl j1 rfl ?_
      have y9 := PT_field (part_BoxShuttle_2).1 c8
      refine EL_do (.yes2 rfl rfl j1) rfl (D_load (g := i5) Try.isAgg3 Try.sizeOf3 rfl y9 fun uA z9 => ?_)
      obtain rfl := RV_int.1 z9
      refine EL_y (.int .i64 (x2)) (P_move j6) rfl rfl j1 rfl ?_
      refine EL_y (.bool (((t5).Box == x2))) (P_int rfl rfl rfl) rfl rfl j1 rfl ?_
      refine EL_p (.bool (((t5).Box == x2))) (P_pick (b := ((u3).Side == x1)) rfl (pick_t j1 rfl)) rfl ?_
      refine EL_nil ?_
      obtain rfl := sinj h
      exact hQ _ _ ⟨i5, hfr, i6, j6, z3, j3, z4, rfl⟩
     ·refine EL_s rfl rfl j1 rfl rfl ?_
      iterate 7 refine EL_s rfl rfl j1 rfl rfl ?_
      refine EL_p (.bool false) (P_pick (b := ((u3).Side == x1)) rfl (pick_f j1 rfl)) rfl ?_
      refine EL_nil ?_
      obtain rfl := sinj h
      exact hQ _ _ ⟨i5, hfr, i6, j6, z3, j3, z4, rfl⟩
    ·clear hx
     obtain ⟨bA, hfr, g8, i8, k8, l8, x6, l5⟩ := hR
     rcases csome h with ⟨v6, h⟩ | ⟨v6, h⟩
     ·refine E_cond_true (Eq.trans (show ev _ _ = .bool (i3) from l5) (congrArg Value.bool v6)) ?_
      refine E_seq (E_region (EL_mv x6 rfl ?_))
      refine EL_at (.int .i64 (o0)) rfl rfl ?_
      refine EL_nil (thn_n (E_ret (blk_r ?_)))
      refine thn_r ?_
      refine thn_r ?_
      refine blk_r ?_
      refine thn_r ?_
      obtain rfl := sinj h
      exact end1 rfl rfl (show _ = .int .i64 (o0) from rfl) ⟨_, hfr, rfl⟩
     ·refine E_cond_false (Eq.trans (show ev _ _ = .bool (i3) from l5) (congrArg Value.bool v6)) ?_
      exact E_skip (blk_n (thn_n (x8 () _ _ ⟨bA, hfr, g8, i8, k8, l8, x6⟩ h)))
   ·rintro _ mA xA ⟨gA, hfr, m8, n8, o8, q8, r8⟩ h
    refine E_region (EL_mv r8 rfl ?_)
    refine EL_in (.int .i64 ((w64 (o0 + (1 : Int))))) rfl rfl rfl rfl ?_
    refine EL_at (.int .i64 ((w64 (o0 + (1 : Int))))) rfl rfl ?_
    exact EL_nil (thn_n (k9 ((w64 (o0 + (1 : Int)))) _ _ ⟨gA, hfr, m8, n8, o8, q8, rfl⟩ h))
 ·rintro _ nA yA ⟨zA, hfr⟩ h
  refine E_seq (E_region (EL_at (.int .i64 (-1)) rfl rfl ?_))
  refine EL_nil (thn_n (E_ret ?_))
  obtain rfl := sinj h
  exact end1 rfl rfl (show _ = .int .i64 (-1) from rfl) ⟨_, hfr, rfl⟩
def f90 (x0 : List (List Int)) (x1 : (List Int) → Option Bool) : Option (Int) :=
 jn (σ := Unit) (fun _ =>
  some ((-1 : Int))
  ) fun k18 =>
 lp (σ := Int) (fun k19 o0 =>
  bif (decide (o0 < ((x0).length : Int))) then
   jn (σ := Unit) (fun _ =>
    k19 ((w64 (o0 + (1 : Int))))
    ) fun k28 =>
   (idx x0 o0).bind fun y6 =>
   (x1 y6).bind fun a7 =>
   bif a7 then
    some (o0)
   else
    k28 ()
  else
   k18 ()
  ) big ((0 : Int))
def f91 (x1 : Int) : Option ((List Int)) :=
 Option.bind (α := Unit) (
  bif (decide (x1 < (0 : Int))) then
   none
  else
   some ()
  ) fun (_ : Unit) =>
 Option.bind (α := (List Int)) (
  bif (decide ((w64 (x1 - (w64 (((0 : Nat) : Int) - ((([] : List Int)).length : Int))))) > (0 : Int))) then
   (grwz 8 ((w64 (x1 - (w64 (((0 : Nat) : Int) - ((([] : List Int)).length : Int))))))).bind fun _ =>
   some (([] : List Int))
  else
   some (([] : List Int))
  ) fun i3 =>
 some (i3)
end Go.Proofs.Ytmpjooneiaiffaa
