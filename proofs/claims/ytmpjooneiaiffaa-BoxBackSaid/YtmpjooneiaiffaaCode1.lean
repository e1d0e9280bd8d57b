import Derived.Test.YtmpjooneiaiffaaTypes
import Derived.Test.YtmpjooneiaiffaaKn
import Derived.Test.YtmpjooneiaiffaaMap
import Derived.Test.YtmpjooneiaiffaaProg
import Derived.Test.YtmpjooneiaiffaaOwm
set_option maxRecDepth 8000
set_option maxHeartbeats 4000000
namespace Go.Proofs.Ytmpjooneiaiffaa
open Go.RowKit
theorem info_3 : (Try.prog.info? 3).map (fun i => (i.zero, i.size, i.bytes)) = some (some (.int .i64 0), 1, 8) := by kernel_rfl
theorem info_87 : (Try.prog.info? 87).map (fun i => (i.zero, i.size, i.bytes)) = some (some (.agg #[.int .i64 0, .int .i64 0, .int .i64 0, .int .i64 0, .int .i64 0]), 5, 40) := by kernel_rfl
theorem plain_Span : Plain Span := fun _ m' _ w' x _ h => (plain_two plain_int plain_int) _ m' _ w' _ _ h
theorem mixed : Try.prog.follows .mixedOrders = true := by kernel_rfl
theorem plain_BoxShuttle : Plain BoxShuttle := fun _ m' _ w' x _ h => (plain_two plain_int (plain_two plain_int (plain_two plain_int plain_Span))) _ m' _ w' _ _ h
theorem info_83 : (Try.prog.info? 83).map (fun i => (i.zero, i.size, i.bytes)) = some (some (.agg #[.int .i64 0, .int .i64 0]), 2, 16) := by kernel_rfl
theorem fl_85 : Try.prog.fieldsOf 85 = #[{ name := "Low", type := 3, offset := 0, embedded := false, tag := "", pkgPath := "", byteOffset := 0 }, { name := "High", type := 3, offset := 1, embedded := false, tag := "", pkgPath := "", byteOffset := 8 }] := by kernel_rfl
theorem seq_85 : SEq (α := Span) Try.prog 85 := by
 intro d x y w a b m wx m2 wy hx hy
 obtain ⟨_, ⟨_, _, rfl, rfl, rfl⟩, rfl⟩ := hx
 obtain ⟨_, ⟨_, _, rfl, rfl, rfl⟩, rfl⟩ := hy
 refine (run_equalIn_struct w (d + 1) 85 _ _ (by kernel_rfl) (by kernel_rfl)).trans ?_
 rw [fl_85]
 obtain ⟨x0, x1⟩ := x
 obtain ⟨y0, y1⟩ := y
 show (Op.eqFields (d + 1) #[.int .i64 (x0), .int .i64 (x1)] #[.int .i64 (y0), .int .i64 (y1)] _).run _ _ = _
 have x0p : (part 3 #[.int .i64 (x0), .int .i64 (x1)] 0).run Try.prog w = .ok (.int .i64 (x0)) w := part_one Try.isAgg3 rfl
 have x1p : (part 3 #[.int .i64 (x0), .int .i64 (x1)] 1).run Try.prog w = .ok (.int .i64 (x1)) w := part_one Try.isAgg3 rfl
 have y0p : (part 3 #[.int .i64 (y0), .int .i64 (y1)] 0).run Try.prog w = .ok (.int .i64 (y0)) w := part_one Try.isAgg3 rfl
 have y1p : (part 3 #[.int .i64 (y0), .int .i64 (y1)] 1).run Try.prog w = .ok (.int .i64 (y1)) w := part_one Try.isAgg3 rfl
 simp only [Op.eqFields, Sem.run_bind, Sem.run_ite, Sem.run_pure, x0p, x1p, y0p, y1p, Result.andThen_ok, run_equalIn_int _ _ _ _ _ _ _ Try.underlying3]
 simp
 grind
theorem eg_85 : Try.prog.eqGuardType Try.prog.depth 85 = false := by kernel_rfl
theorem lay_85 : layoutOf Try.prog 85 = some ([.int .i64 0, .int .i64 0], [(0, 1), (1, 1)]) := by kernel_rfl
theorem lay_25 : layoutOf Try.prog 25 = some ([.slice none 0 0, .slice none 0 0, .slice none 0 0], [(0, 1), (1, 1), (2, 1)]) := by kernel_rfl
theorem layA_137 : ((Try.prog.info? 137).bind (·.zero)).map (·.cells.toList) = some [.bool false, .bool false, .bool false, .bool false, .bool false, .bool false, .bool false, .bool false] := by kernel_rfl
theorem szA_4 : (Try.prog.info? 4).map (·.size) = some 1 := by kernel_rfl
theorem layA_69 : ((Try.prog.info? 69).bind (·.zero)).map (·.cells.toList) = some [.int .u8 0, .int .u8 0, .int .u8 0, .int .u8 0] := by kernel_rfl
theorem szA_5 : (Try.prog.info? 5).map (·.size) = some 1 := by kernel_rfl
theorem endm_c {P : Program} {e : Env} {ds : List Deferred} {w : World} {fn : Func} {R : Value → World → Prop} {t0 : Tmp} {v0 : Value} {y0 : TypeId} {a0 : Addr} (hres : fn.results = #[.cell t0 y0]) (hd : ds = []) (h0 : e t0 = .pointer (some a0)) (l0 : (loadVar y0 a0).run P w = .ok v0 w) (h : R v0 w) : atEnd P fn R .ret e ds w :=
 ⟨hd, fun tmps ht => ⟨_, by simp [results, hres, ht, asAddr, h0, l0], h⟩⟩
theorem layA_76 : ((Try.prog.info? 76).bind (·.zero)).map (·.cells.toList) = some [.int .i64 0, .int .i64 0, .int .i64 0, .int .i64 0, .int .i64 0, .int .i64 0, .int .i64 0, .int .i64 0] := by kernel_rfl
theorem szA_75 : (Try.prog.info? 75).map (·.size) = some 4 := by kernel_rfl
theorem lay_87 : layoutOf Try.prog 87 = some ([.int .i64 0, .int .i64 0, .int .i64 0, .int .i64 0, .int .i64 0], [(0, 1), (1, 1), (2, 1), (3, 2)]) := by kernel_rfl
theorem lay_83 : layoutOf Try.prog 83 = some ([.int .i64 0, .int .i64 0], [(0, 1), (1, 1)]) := by kernel_rfl
theorem lay_102 : layoutOf Try.prog 102 = some ([.slice none 0 0, .slice none 0 0, .slice none 0 0], [(0, 3)]) := by kernel_rfl
theorem capf_0_1 {e : Env} {f : FuncId} {o0 : Operand} {b0 : Value} (hb0 : ev e o0 = b0) : (Value.func (.func f) ((#[] : Array Operand).map (ev e)) ((#[o0] : Array Operand).map (ev e))) = .func (.func f) #[] #[b0] := by simp [hb0]
theorem endm_ct {P : Program} {e : Env} {ds : List Deferred} {w : World} {fn : Func} {R : Value → World → Prop} {t0 : Tmp} {v0 : Value} {y0 : TypeId} {a0 : Addr} {t1 : Tmp} {v1 : Value} (hres : fn.results = #[.cell t0 y0, .tmp t1]) (hd : ds = []) (h0 : e t0 = .pointer (some a0)) (l0 : (loadVar y0 a0).run P w = .ok v0 w) (h1 : e t1 = v1) (h : R (.tuple #[v0, v1]) w) : atEnd P fn R .ret e ds w :=
 ⟨hd, fun tmps ht => ⟨_, by simp [results, hres, ht, asAddr, h0, l0, h1], h⟩⟩
theorem capf_0_2 {e : Env} {f : FuncId} {o0 : Operand} {j1 : Operand} {b0 : Value} {b1 : Value} (hb0 : ev e o0 = b0) (hb1 : ev e j1 = b1) : (Value.func (.func f) ((#[] : Array Operand).map (ev e)) ((#[o0, j1] : Array Operand).map (ev e))) = .func (.func f) #[] #[b0, b1] := by simp [hb0, hb1]
theorem endm_ctt {P : Program} {e : Env} {ds : List Deferred} {w : World} {fn : Func} {R : Value → World → Prop} {t0 : Tmp} {v0 : Value} {y0 : TypeId} {a0 : Addr} {t1 : Tmp} {v1 : Value} {t2 : Tmp} {v2 : Value} (hres : fn.results = #[.cell t0 y0, .tmp t1, .tmp t2]) (hd : ds = []) (h0 : e t0 = .pointer (some a0)) (l0 : (loadVar y0 a0).run P w = .ok v0 w) (h1 : e t1 = v1) (h2 : e t2 = v2) (h : R (.tuple #[v0, v1, v2]) w) : atEnd P fn R .ret e ds w :=
 ⟨hd, fun tmps ht => ⟨_, by simp [results, hres, ht, asAddr, h0, l0, h1, h2], h⟩⟩
theorem layA_138 : ((Try.prog.info? 138).bind (·.zero)).map (·.cells.toList) = some [.int .i64 0, .int .i64 0] := by kernel_rfl
theorem szA_3 : (Try.prog.info? 3).map (·.size) = some 1 := by kernel_rfl
theorem endm_ttct {P : Program} {e : Env} {ds : List Deferred} {w : World} {fn : Func} {R : Value → World → Prop} {t0 : Tmp} {v0 : Value} {t1 : Tmp} {v1 : Value} {t2 : Tmp} {v2 : Value} {y2 : TypeId} {a2 : Addr} {t3 : Tmp} {v3 : Value} (hres : fn.results = #[.tmp t0, .tmp t1, .cell t2 y2, .tmp t3]) (hd : ds = []) (h0 : e t0 = v0) (h1 : e t1 = v1) (h2 : e t2 = .pointer (some a2)) (l2 : (loadVar y2 a2).run P w = .ok v2 w) (h3 : e t3 = v3) (h : R (.tuple #[v0, v1, v2, v3]) w) : atEnd P fn R .ret e ds w :=
 ⟨hd, fun tmps ht => ⟨_, by simp [results, hres, ht, asAddr, h0, h1, h2, l2, h3], h⟩⟩
@[reducible] def ow_BoxLoom : Ow BoxLoom := Ow.struct (fun (x : BoxLoom) => (x.Boxes, x.At, x.Shuttles)) (Ow.pair (Ow.list 3 (Ow.sh Int)) (Ow.pair (Ow.list 3 (Ow.sh Int)) (Ow.list 87 (Ow.sh BoxShuttle))))
theorem fl_BoxLoom_2 : Fl ow_BoxLoom (Ow.list 87 (Ow.sh BoxShuttle)) 2 (fun (x : BoxLoom) y => { x with Shuttles := y }) (fun (q : (ow_BoxLoom).S) (r : ((Ow.list 87 (Ow.sh BoxShuttle))).S) => (Prod.fst q, (Prod.fst (Prod.snd q), r))) := Fl.of _ (Fl.comp Prod.snd Prod.snd (Fl.snd _ _) (Fl.comp Prod.snd Prod.snd (Fl.snd _ _) (Fl.id_ _) rfl) rfl) (fun _ _ => rfl)
theorem fl_BoxShuttle_1 : Fl (Ow.sh BoxShuttle) (Ow.sh Int) 1 (fun (x : BoxShuttle) y => { x with Side := y }) (fun q _ => q) := Fl.shd part_BoxShuttle_1 (fun _ _ => rfl) (fun _ _ _ => rfl)
theorem fl_BoxShuttle_2 : Fl (Ow.sh BoxShuttle) (Ow.sh Int) 2 (fun (x : BoxShuttle) y => { x with Box := y }) (fun q _ => q) := Fl.shd part_BoxShuttle_2 (fun _ _ => rfl) (fun _ _ _ => rfl)
theorem lay_129 : layoutOf Try.prog 129 = some ([.slice none 0 0, .int .i64 0, .int .i64 0, .int .i64 0, .int .i64 0, .int .i64 0, .int .i64 0, .int .i64 0, .int .i64 0, .int .i64 0, .int .i64 0, .int .i64 0], [(0, 1), (1, 10), (11, 1)]) := by kernel_rfl
theorem pl_138 : Pl (Vector Int 2) := Pl.array Pl.int
theorem eqd_138 : EqD Try.prog (Vector Int 2) 2 138 := EqD.array Try.underlying138 info_3 (by kernel_rfl) Try.isAgg3 Try.sizeOf3 (EqD.int Try.underlying3)
theorem ckd_138 : CkD Try.prog (Vector Int 2) 2 138 := CkD.array Try.underlying138 info_3 (by kernel_rfl) Try.isAgg3 Try.sizeOf3 (CkD.int Try.underlying3)
theorem key_138 : KeyLaw Try.prog 138 (encK pl_138) := keyLaw_pl pl_138 (by rw [Try.underlying138]) rfl eqd_138 ckd_138 (by decide)
theorem eqd_75 : EqD Try.prog (Vector Int 4) 2 75 := EqD.array Try.underlying75 info_3 (by kernel_rfl) Try.isAgg3 Try.sizeOf3 (EqD.int Try.underlying3)
theorem info_75 : (Try.prog.info? 75).map (fun i => (i.zero, i.size, i.bytes)) = some (some (.agg #[.int .i64 0, .int .i64 0, .int .i64 0, .int .i64 0]), 4, 32) := by kernel_rfl
theorem eqd_76 : EqD Try.prog (Vector (Vector Int 4) 2) 3 76 := EqD.array Try.underlying76 info_75 (by kernel_rfl) Try.isAgg75 Try.sizeOf75 eqd_75
theorem eg_76 : Try.prog.eqGuardType Try.prog.depth 76 = false := by kernel_rfl
theorem endm_cctt {P : Program} {e : Env} {ds : List Deferred} {w : World} {fn : Func} {R : Value → World → Prop} {t0 : Tmp} {v0 : Value} {y0 : TypeId} {a0 : Addr} {t1 : Tmp} {v1 : Value} {y1 : TypeId} {a1 : Addr} {t2 : Tmp} {v2 : Value} {t3 : Tmp} {v3 : Value} (hres : fn.results = #[.cell t0 y0, .cell t1 y1, .tmp t2, .tmp t3]) (hd : ds = []) (h0 : e t0 = .pointer (some a0)) (l0 : (loadVar y0 a0).run P w = .ok v0 w) (h1 : e t1 = .pointer (some a1)) (l1 : (loadVar y1 a1).run P w = .ok v1 w) (h2 : e t2 = v2) (h3 : e t3 = v3) (h : R (.tuple #[v0, v1, v2, v3]) w) : atEnd P fn R .ret e ds w :=
 ⟨hd, fun tmps ht => ⟨_, by simp [results, hres, ht, asAddr, h0, l0, h1, l1, h2, h3], h⟩⟩
theorem endm_tcttt {P : Program} {e : Env} {ds : List Deferred} {w : World} {fn : Func} {R : Value → World → Prop} {t0 : Tmp} {v0 : Value} {t1 : Tmp} {v1 : Value} {y1 : TypeId} {a1 : Addr} {t2 : Tmp} {v2 : Value} {t3 : Tmp} {v3 : Value} {t4 : Tmp} {v4 : Value} (hres : fn.results = #[.tmp t0, .cell t1 y1, .tmp t2, .tmp t3, .tmp t4]) (hd : ds = []) (h0 : e t0 = v0) (h1 : e t1 = .pointer (some a1)) (l1 : (loadVar y1 a1).run P w = .ok v1 w) (h2 : e t2 = v2) (h3 : e t3 = v3) (h4 : e t4 = v4) (h : R (.tuple #[v0, v1, v2, v3, v4]) w) : atEnd P fn R .ret e ds w :=
 ⟨hd, fun tmps ht => ⟨_, by simp [results, hres, ht, asAddr, h0, h1, l1, h2, h3, h4], h⟩⟩
def f78 (x0 : List Int) : Option (List Int) := apnd 8 [] x0
theorem en78 : Enters Try.prog 78 := enters_of Try.func78 (by kernel_rfl) rfl
def f79 (x0 : List BoxShuttle) : Option (List BoxShuttle) := apnd 40 [] x0
theorem en79 : Enters Try.prog 79 := enters_of Try.func79 (by kernel_rfl) rfl
def lenTab : Str := (⟨[0, 1, 2, 2, 3, 3, 3, 3, 4, 4, 4, 4, 4, 4, 4, 4, 5, 5, 5, 5, 5, 5, 5, 5, 5, 5, 5, 5, 5, 5, 5, 5, 6, 6, 6, 6, 6, 6, 6, 6, 6, 6, 6, 6, 6, 6, 6, 6, 6, 6, 6, 6, 6, 6, 6, 6, 6, 6, 6, 6, 6, 6, 6, 6, 7, 7, 7, 7, 7, 7, 7, 7, 7, 7, 7, 7, 7, 7, 7, 7, 7, 7, 7, 7, 7, 7, 7, 7, 7, 7, 7, 7, 7, 7, 7, 7, 7, 7, 7, 7, 7, 7, 7, 7, 7, 7, 7, 7, 7, 7, 7, 7, 7, 7, 7, 7, 7, 7, 7, 7, 7, 7, 7, 7, 7, 7, 7, 7, 8, 8, 8, 8, 8, 8, 8, 8, 8, 8, 8, 8, 8, 8, 8, 8, 8, 8, 8, 8, 8, 8, 8, 8, 8, 8, 8, 8, 8, 8, 8, 8, 8, 8, 8, 8, 8, 8, 8, 8, 8, 8, 8, 8, 8, 8, 8, 8, 8, 8, 8, 8, 8, 8, 8, 8, 8, 8, 8, 8, 8, 8, 8, 8, 8, 8, 8, 8, 8, 8, 8, 8, 8, 8, 8, 8, 8, 8, 8, 8, 8, 8, 8, 8, 8, 8, 8, 8, 8, 8, 8, 8, 8, 8, 8, 8, 8, 8, 8, 8, 8, 8, 8, 8, 8, 8, 8, 8, 8, 8, 8, 8, 8, 8, 8, 8, 8, 8, 8, 8, 8, 8, 8, 8, 8, 8, 8, 8]⟩ : Str)
def f120 (x : Int) : Option Int := if 0 ≤ x ∧ x < 256 then (idx lenTab.b x).map fun c => w64 (0 + (c.toNat : Int)) else none
def f109 (x : Int) : Option Int := f120 x
def f14 : Option Bool := some true
theorem en14 : Enters Try.prog 14 := enters_of Try.func14 (by kernel_rfl) rfl
theorem wk14 {gI : Gh} {wI : World} {r : Bool} (h : f14 = some r) : Fn Try.prog 14 #[] gI wI (fun _ _ v => v = .bool (r)) := by
 injection h with h
 subst h
 exact wkK14
def f19 (x0 : List Int) (x1 : List Int) : Option (Bool) :=
 jn (σ := Unit) (fun _ =>
  jn (σ := Unit) (fun _ =>
   some (true)
   ) fun k53 =>
  lp (σ := Int) (fun k54 o0 =>
   jn (σ := Unit) (fun _ =>
    jn (σ := Unit) (fun _ =>
     k54 ((w64 (o0 + (1 : Int))))
     ) fun j7 =>
    (idx x0 o0).bind fun z4 =>
    (idx x1 o0).bind fun i5 =>
    bif (z4 != i5) then
     some (false)
    else
     j7 ()
    ) fun k57 =>
   bif (decide (o0 < ((x0).length : Int))) then
    k57 ()
   else
    k53 ()
   ) big ((0 : Int))
  ) fun k2 =>
 bif (((x0).length : Int) != ((x1).length : Int)) then
  some (false)
 else
  k2 ()
def f28 (x0 : List BoxPick) : Option ((List BoxPick)) :=
 (apnd 16 (([] : List BoxPick)) x0).bind fun y3 =>
 some (y3)
theorem en28 : Enters Try.prog 28 := enters_of Try.func28 (by kernel_rfl) rfl
theorem wk28 {gI : Gh} {wI : World} {x0 : List BoxPick} {up0 : Value} (rp0 : RV gI.m wI x0 up0) {r : (List BoxPick)} (h : f28 x0 = some r) : Fn Try.prog 28 #[up0] gI wI (fun m w v => RV m w (r) v) := by
 unfold f28 at h
 refine fn_of_E Try.func28 rfl (Nat.le_of_ble_eq_true rfl) fun g0 hm hfr => ?_
 have rp0 : RV g0.m wI x0 up0 := hm ▸ rp0
 show E _ 6 none _ _ _ _ _
 refine E_seq (E_region (EL_at (.slice none 0 0) rfl rfl ?_))
 refine EL_nil (thn_n (E_seq (E_region (EL_do .plain rfl (D_buildSlice (g := g0) 3003 (xs := ([] : List BoxPick)) (vs := []) Try.underlying30 Try.sizeOf83 Try.zeroValue83 rfl rfl .nil RVs.nil rfl rfl fun g1 w1 v1 hs o1 r1 hxt hfl => ?_)))))
 have hfr := hfr.stp hs
 have rp0 := rp0.stp hs
 refine EL_mw up0 rfl rfl ?_
 obtain ⟨y3, hy3, h⟩ := bsome h
 refine EL_do .plain rfl (D_append (g := g1) (i := 3003) Try.underlying30 info_83 rfl rfl o1 r1 rfl rp0 hy3 fun g2 w2 v2 hs o2 r2 _ => ?_)
 have hfr := hfr.stp hs
 refine EL_at v2 rfl rfl ?_
 refine EL_nil (thn_n (E_ret ?_))
 obtain rfl := sinj h
 exact end1 rfl rfl (show _ = v2 from rfl) ⟨_, hfr, r2⟩
def f41 (x0 : BoxLoom) (x1 : BoxLoom) (x2 : Vector (Vector Int 4) 2) : Option (Bool) :=
 jn (σ := Unit) (fun _ =>
  jn (σ := Unit) (fun _ =>
   some (true)
   ) fun eB =>
  lp (σ := Int) (fun iB i5 =>
   jn (σ := Unit) (fun _ =>
    jn (σ := Unit) (fun _ =>
     iB ((w64 (i5 + (1 : Int))))
     ) fun jB =>
    (idx ((x0).Shuttles) i5).bind fun o0 =>
    (idx ((x1).Shuttles) i5).bind fun j1 =>
    Option.bind (α := Bool) (
     bif ((o0).Colour != (j1).Colour) then
      some (true)
     else
      bif (!(decide ((o0).Yarn = (j1).Yarn))) then
       some (true)
      else
       bif (decide ((o0).Side < (0 : Int))) then
        some (true)
       else
        bif (decide ((o0).Side > (1 : Int))) then
         some (true)
        else
         bif (decide ((o0).Box < (0 : Int))) then
          some (true)
         else
          bif (decide ((o0).Box > (3 : Int))) then
           some (true)
          else
           (idx (x2).toList (o0).Side).bind fun lB =>
           (idx (lB).toList (o0).Box).bind fun q8 =>
           some ((q8 != (w64 (i5 + (1 : Int)))))
     ) fun i7 =>
    bif i7 then
     some (false)
    else
     jB ()
    ) fun mB =>
   bif (decide (i5 < (((x0).Shuttles).length : Int))) then
    mB ()
   else
    eB ()
   ) big ((0 : Int))
  ) fun nD =>
 Option.bind (α := Bool) (
  bif ((((x0).Shuttles).length : Int) != (((x1).Shuttles).length : Int)) then
   some (true)
  else
   bif ((((x0).Boxes).length : Int) != (2 : Int)) then
    some (true)
   else
    (idx ((x0).Boxes) (0 : Int)).bind fun j7 =>
    (idx ((x1).Boxes) (0 : Int)).bind fun m7 =>
    bif (j7 != m7) then
     some (true)
    else
     (idx ((x0).Boxes) (1 : Int)).bind fun d9 =>
     (idx ((x1).Boxes) (1 : Int)).bind fun i9 =>
     some ((d9 != i9))
  ) fun v7 =>
 bif v7 then
  some (false)
 else
  nD ()
theorem en41 : Enters Try.prog 41 := enters_of Try.func41 (by kernel_rfl) rfl
theorem wk41 {gI : Gh} {wI : World} {x0 : BoxLoom} {x1 : BoxLoom} {x2 : Vector (Vector Int 4) 2} {up0 : Value} (rp0 : RV gI.m wI x0 up0) {up1 : Value} (rp1 : RV gI.m wI x1 up1) {up2 : Value} (rp2 : RV gI.m wI x2 up2) {r : Bool} (h : f41 x0 x1 x2 = some r) : Fn Try.prog 41 #[up0, up1, up2] gI wI (fun _ _ v => v = .bool (r)) := by
 unfold f41 at h
 refine fn_of_E Try.func41 rfl (Nat.le_of_ble_eq_true rfl) fun g0 hm hfr => ?_
 have rp0 : RV g0.m wI x0 up0 := hm ▸ rp0
 have rp1 : RV g0.m wI x1 up1 := hm ▸ rp1
 have rp2 : RV g0.m wI x2 up2 := hm ▸ rp2
 show E _ 106 none _ _ _ _ _
 refine E_seq (E_region (EL_do .plain rfl (D_box (g := g0) rfl rp0 fun g1 w1 p1 hs q1 => ?_)))
 have hfr := hfr.ext hs
 have rp1 := rp1.ext hs
 have rp2 := rp2.ext hs
 refine EL_do .plain rfl (D_box (g := g1) rfl rp1 fun g2 w2 p2 hs q2 => ?_)
 have hfr := hfr.ext hs
 have rp2 := rp2.ext hs
 have q1 := q1.ext hs
 refine EL_do .plain rfl (D_box (g := g2) rfl rp2 fun g3 w3 p3 hs q3 => ?_)
 have hfr := hfr.ext hs
 have q1 := q1.ext hs
 have q2 := q2.ext hs
 refine EL_at (.bool false) rfl rfl ?_
 refine EL_nil (thn_n (E_joinC h (fun (s : Unit) e w => ∃ (g : Gh) , Fr gI wI g w ∧ e 3 = p1 ∧ PT g.m w (x0 : BoxLoom) p1 ∧ e 4 = p2 ∧ PT g.m w (x1 : BoxLoom) p2 ∧ e 5 = p3 ∧ PT g.m w (x2 : Vector (Vector Int 4) 2) p3) (fun X409 nD yE h => ?_) ?_))
 ·obtain ⟨v7, hx, h⟩ := bsome h
  refine E_join (fun e w => ∃ (g : Gh) , Fr gI wI g w ∧ e 3 = p1 ∧ PT g.m w (x0 : BoxLoom) p1 ∧ e 4 = p2 ∧ PT g.m w (x1 : BoxLoom) p2 ∧ e 5 = p3 ∧ PT g.m w (x2 : Vector (Vector Int 4) 2) p3 ∧ e 44 = .bool (v7)) (fun Q' hQ => ?_) (fun vH cJ hR => ?_)
  ·replace h := hx
   clear hx
   have qG := PT_field (part_BoxLoom_2).1 q1
   refine L_load (x := .tmp 10) Try.isAgg23 Try.sizeOf23 qG fun y9 z9 y8 => ?_
   have rG := PT_field (part_BoxLoom_2).1 q2
   refine L_load (x := .tmp 13) Try.isAgg23 Try.sizeOf23 rG fun bA gA a9 => ?_
   rcases csome h with ⟨j6, h⟩ | ⟨j6, h⟩
   ·refine E_drawL (g := g3) (n := 35) [] [0, 1, 2, 3, 4, 5, 6, 7, 8, 9, 10, 11, 12, 13, 14, 15, 16, 17, 18, 19, 20, 21, 22, 23, 24, 25, 26, 27, 28, 29, 30, 31, 32, 33, 34] rfl mixed (by kernel_rfl) trivial ?_
    refine L_p (fPtr p1 2) rfl rfl (P_fieldAddr at_25_2 rfl (PT.ptr q1)) ?_
    refine L_ld (c := y9) rfl rfl .plain (fun _ _ h => h.ch) y8 rfl ?_
    refine L_p (.int .i64 (((x0).Shuttles).length : Int)) rfl rfl (P_len Try.underlying23 rfl z9) ?_
    refine L_p (fPtr p2 2) rfl rfl (P_fieldAddr at_25_2 rfl (PT.ptr q2)) ?_
    refine L_ld (c := bA) rfl rfl .plain (fun _ _ h => h.ch) a9 rfl ?_
    refine L_p (.int .i64 (((x1).Shuttles).length : Int)) rfl rfl (P_len Try.underlying23 rfl gA) ?_
    refine L_p (.bool (((((x0).Shuttles).length : Int) != (((x1).Shuttles).length : Int)))) rfl rfl (P_int rfl rfl rfl) ?_
    refine L_p (.bool (((((x0).Shuttles).length : Int) != (((x1).Shuttles).length : Int)))) rfl rfl (P_move rfl) ?_
    iterate 4 refine L_s rfl rfl rfl j6 rfl ?_
    refine L_p (.bool true) rfl rfl (P_pick (b := ((((x0).Shuttles).length : Int) != (((x1).Shuttles).length : Int))) rfl (pick_t j6 rfl)) ?_
    refine L_dead (fun _ => rfl) 22 rfl ?_
    refine L_nl fun sG dJ hs => ?_
    have hfr := hfr.ext hs
    have q1 := q1.ext hs
    have q2 := q2.ext hs
    have q3 := q3.ext hs
    clear hs
    refine EL_nil ?_
    obtain rfl := sinj h
    exact hQ _ _ ⟨sG, hfr, rfl, q1, rfl, q2, rfl, q3, rfl⟩
   ·have tG := PT_field (part_BoxLoom_0).1 q1
    refine L_load (x := .tmp 18) Try.isAgg22 Try.sizeOf22 tG fun aB bB iA => ?_
    rcases csome h with ⟨t5, h⟩ | ⟨t5, h⟩
    ·refine E_drawL (g := g3) (n := 35) [] [0, 1, 2, 3, 4, 5, 6, 7, 8, 9, 10, 11, 12, 13, 14, 15, 16, 17, 18, 19, 20, 21, 22, 23, 24, 25, 26, 27, 28, 29, 30, 31, 32, 33, 34] rfl mixed (by kernel_rfl) trivial ?_
     refine L_p (fPtr p1 2) rfl rfl (P_fieldAddr at_25_2 rfl (PT.ptr q1)) ?_
     refine L_ld (c := y9) rfl rfl .plain (fun _ _ h => h.ch) y8 rfl ?_
     refine L_p (.int .i64 (((x0).Shuttles).length : Int)) rfl rfl (P_len Try.underlying23 rfl z9) ?_
     refine L_p (fPtr p2 2) rfl rfl (P_fieldAddr at_25_2 rfl (PT.ptr q2)) ?_
     refine L_ld (c := bA) rfl rfl .plain (fun _ _ h => h.ch) a9 rfl ?_
     refine L_p (.int .i64 (((x1).Shuttles).length : Int)) rfl rfl (P_len Try.underlying23 rfl gA) ?_
     refine L_p (.bool (((((x0).Shuttles).length : Int) != (((x1).Shuttles).length : Int)))) rfl rfl (P_int rfl rfl rfl) ?_
     refine L_p (.bool (((((x0).Shuttles).length : Int) != (((x1).Shuttles).length : Int)))) rfl rfl (P_move rfl) ?_
     refine L_y (fPtr p1 0) rfl rfl rfl rfl j6 (P_fieldAddr at_25_0 rfl (PT.ptr q1)) ?_
     refine L_ld (c := aB) rfl rfl (.yes2 rfl rfl j6) (fun _ _ h => h.ch) iA rfl ?_
     refine L_y (.int .i64 (((x0).Boxes).length : Int)) rfl rfl rfl rfl j6 (P_len Try.underlying22 rfl bB) ?_
     refine L_y (.bool (((((x0).Boxes).length : Int) != (2 : Int)))) rfl rfl rfl rfl j6 (P_int rfl rfl rfl) ?_
     refine L_p (.bool (((((x0).Boxes).length : Int) != (2 : Int)))) rfl rfl (P_pick (b := ((((x0).Shuttles).length : Int) != (((x1).Shuttles).length : Int))) rfl (pick_f j6 rfl)) ?_
     refine L_p (.bool (((((x0).Boxes).length : Int) != (2 : Int)))) rfl rfl (P_move rfl) ?_
     iterate 9 refine L_s rfl rfl rfl t5 rfl ?_
     refine L_p (.bool true) rfl rfl (P_pick (b := ((((x0).Boxes).length : Int) != (2 : Int))) rfl (pick_t t5 rfl)) ?_
     refine L_dead (fun _ => rfl) 11 rfl ?_
     refine L_nl fun uG eJ hs => ?_
     have hfr := hfr.ext hs
     have q1 := q1.ext hs
     have q2 := q2.ext hs
     have q3 := q3.ext hs
     clear hs
     refine EL_nil ?_
     obtain rfl := sinj h
     exact hQ _ _ ⟨uG, hfr, rfl, q1, rfl, q2, rfl, q3, rfl⟩
    ·have vG := PT_field (part_BoxLoom_0).1 q1
     refine L_load (x := .tmp 24) Try.isAgg22 Try.sizeOf22 vG fun jA cB nB => ?_
     obtain ⟨j7, lA, h⟩ := bsome h
     have xG := PT_idx cB lA
     refine L_load (x := .tmp 26) Try.isAgg3 Try.sizeOf3 xG fun gJ yG oB => ?_
     obtain rfl := RV_int.1 yG
     have zG := PT_field (part_BoxLoom_0).1 q2
     refine L_load (x := .tmp 28) Try.isAgg22 Try.sizeOf22 zG fun mA dB tB => ?_
     obtain ⟨m7, nA, h⟩ := bsome h
     have aH := PT_idx dB nA
     refine L_load (x := .tmp 30) Try.isAgg3 Try.sizeOf3 aH fun iJ bH vB => ?_
     obtain rfl := RV_int.1 bH
     rcases csome h with ⟨b7, h⟩ | ⟨b7, h⟩
     ·refine E_drawL (g := g3) (n := 35) [] [0, 1, 2, 3, 4, 5, 6, 7, 8, 9, 10, 11, 12, 13, 14, 15, 16, 17, 18, 19, 20, 21, 22, 23, 24, 25, 26, 27, 28, 29, 30, 31, 32, 33, 34] rfl mixed (by kernel_rfl) trivial ?_
      refine L_p (fPtr p1 2) rfl rfl (P_fieldAddr at_25_2 rfl (PT.ptr q1)) ?_
      refine L_ld (c := y9) rfl rfl .plain (fun _ _ h => h.ch) y8 rfl ?_
      refine L_p (.int .i64 (((x0).Shuttles).length : Int)) rfl rfl (P_len Try.underlying23 rfl z9) ?_
      refine L_p (fPtr p2 2) rfl rfl (P_fieldAddr at_25_2 rfl (PT.ptr q2)) ?_
      refine L_ld (c := bA) rfl rfl .plain (fun _ _ h => h.ch) a9 rfl ?_
      refine L_p (.int .i64 (((x1).Shuttles).length : Int)) rfl rfl (P_len Try.underlying23 rfl gA) ?_
      refine L_p (.bool (((((x0).Shuttles).length : Int) != (((x1).Shuttles).length : Int)))) rfl rfl (P_int rfl rfl rfl) ?_
      refine L_p (.bool (((((x0).Shuttles).length : Int) != (((x1).Shuttles).length : Int)))) rfl rfl (P_move rfl) ?_
      refine L_y (fPtr p1 0) rfl rfl rfl rfl j6 (P_fieldAddr at_25_0 rfl (PT.ptr q1)) ?_
      refine L_ld (c := aB) rfl rfl (.yes2 rfl rfl j6) (fun _ _ h => h.ch) iA rfl ?_
      refine L_y (.int .i64 (((x0).Boxes).length : Int)) rfl rfl rfl rfl j6 (P_len Try.underlying22 rfl bB) ?_
      refine L_y (.bool (((((x0).Boxes).length : Int) != (2 : Int)))) rfl rfl rfl rfl j6 (P_int rfl rfl rfl) ?_
      refine L_p (.bool (((((x0).Boxes).length : Int) != (2 : Int)))) rfl rfl (P_pick (b := ((((x0).Shuttles).length : Int) != (((x1).Shuttles).length : Int))) rfl (pick_f j6 rfl)) ?_
      refine L_p (.bool (((((x0).Boxes).length : Int) != (2 : Int)))) rfl rfl (P_move rfl) ?_
      refine L_y (fPtr p1 0) rfl rfl rfl rfl t5 (P_fieldAddr at_25_0 rfl (PT.ptr q1)) ?_
      refine L_ld (c := jA) rfl rfl (.yes2 rfl rfl t5) (fun _ _ h => h.ch) nB rfl ?_
      refine L_y (ePtr jA (0 : Int) 1) rfl rfl rfl rfl t5 (P_indexAddr (α := Int) Try.underlying22 Try.sizeOf3 rfl cB rfl lA) ?_
      refine L_ld (c := .int .i64 (j7)) rfl rfl (.yes2 rfl rfl t5) (fun _ _ h => h.ch) oB rfl ?_
      refine L_y (fPtr p2 0) rfl rfl rfl rfl t5 (P_fieldAddr at_25_0 rfl (PT.ptr q2)) ?_
      refine L_ld (c := mA) rfl rfl (.yes2 rfl rfl t5) (fun _ _ h => h.ch) tB rfl ?_
      refine L_y (ePtr mA (0 : Int) 1) rfl rfl rfl rfl t5 (P_indexAddr (α := Int) Try.underlying22 Try.sizeOf3 rfl dB rfl nA) ?_
      refine L_ld (c := .int .i64 (m7)) rfl rfl (.yes2 rfl rfl t5) (fun _ _ h => h.ch) vB rfl ?_
      refine L_y (.bool ((j7 != m7))) rfl rfl rfl rfl t5 (P_int rfl rfl rfl) ?_
      refine L_p (.bool ((j7 != m7))) rfl rfl (P_pick (b := ((((x0).Boxes).length : Int) != (2 : Int))) rfl (pick_f t5 rfl)) ?_
      refine L_p (.bool ((j7 != m7))) rfl rfl (P_move rfl) ?_
      iterate 9 refine L_s rfl rfl rfl b7 rfl ?_
      refine L_p (.bool true) rfl rfl (P_pick (b := (j7 != m7)) rfl (pick_t b7 rfl)) ?_
      refine L_nl fun cH jJ hs => ?_
      have hfr := hfr.ext hs
      have q1 := q1.ext hs
      have q2 := q2.ext hs
      have q3 := q3.ext hs
      clear hs
      refine EL_nil ?_
      obtain rfl := sinj h
      exact hQ _ _ ⟨cH, hfr, rfl, q1, rfl, q2, rfl, q3, rfl⟩
     ·have dH := PT_field (part_BoxLoom_0).1 q1
      refine L_load (x := .tmp 35) Try.isAgg22 Try.sizeOf22 dH fun oD sD zE => ?_
      obtain ⟨d9, xB, h⟩ := bsome h
      have gH := PT_idx sD xB
      refine L_load (x := .tmp 37) Try.isAgg3 Try.sizeOf3 gH fun kJ iH cF => ?_
      obtain rfl := RV_int.1 iH
      have jH := PT_field (part_BoxLoom_0).1 q2
      refine L_load (x := .tmp 39) Try.isAgg22 Try.sizeOf22 jH fun tD uD dF => ?_
      obtain ⟨i9, yB, h⟩ := bsome h
      have kH := PT_idx uD yB
      refine L_load (x := .tmp 41) Try.isAgg3 Try.sizeOf3 kH fun lJ lH eF => ?_
      obtain rfl := RV_int.1 lH
      refine E_drawL (g := g3) (n := 35) [] [0, 1, 2, 3, 4, 5, 6, 7, 8, 9, 10, 11, 12, 13, 14, 15, 16, 17, 18, 19, 20, 21, 22, 23, 24, 25, 26, 27, 28, 29, 30, 31, 32, 33, 34] rfl mixed (by kernel_rfl) trivial ?_
      refine L_p (fPtr p1 2) rfl rfl (P_fieldAddr at_25_2 rfl (PT.ptr q1)) ?_
      refine L_ld (c := y9) rfl rfl .plain (fun _ _ h => h.ch) y8 rfl ?_
      refine L_p (.int .i64 (((x0).Shuttles).length : Int)) rfl rfl (P_len Try.underlying23 rfl z9) ?_
      refine L_p (fPtr p2 2) rfl rfl (P_fieldAddr at_25_2 rfl (PT.ptr q2)) ?_
      refine L_ld (c := bA) rfl rfl .plain (fun _ _ h => h.ch) a9 rfl ?_
      refine L_p (.int .i64 (((x1).Shuttles).length : Int)) rfl rfl (P_len Try.underlying23 rfl gA) ?_
      refine L_p (.bool (((((x0).Shuttles).length : Int) != (((x1).Shuttles).length : Int)))) rfl rfl (P_int rfl rfl rfl) ?_
      refine L_p (.bool (((((x0).Shuttles).length : Int) != (((x1).Shuttles).length : Int)))) rfl rfl (P_move rfl) ?_
      refine L_y (fPtr p1 0) rfl rfl rfl rfl j6 (P_fieldAddr at_25_0 rfl (PT.ptr q1)) ?_
      refine L_ld (c := aB) rfl rfl (.yes2 rfl rfl j6) (fun _ _ h => h.ch) iA rfl ?_
      refine L_y (.int .i64 (((x0).Boxes).length : Int)) rfl rfl rfl rfl j6 (P_len Try.underlying22 rfl bB) ?_
      refine L_y (.bool (((((x0).Boxes).length : Int) != (2 : Int)))) rfl rfl rfl rfl j6 (P_int rfl rfl rfl) ?_
      refine L_p (.bool (((((x0).Boxes).length : Int) != (2 : Int)))) rfl rfl (P_pick (b := ((((x0).Shuttles).length : Int) != (((x1).Shuttles).length : Int))) rfl (pick_f j6 rfl)) ?_
      refine L_p (.bool (((((x0).Boxes).length : Int) != (2 : Int)))) rfl rfl (P_move rfl) ?_
      refine L_y (fPtr p1 0) rfl rfl rfl rfl t5 (P_fieldAddr at_25_0 rfl (PT.ptr q1)) ?_
      refine L_ld (c := jA) rfl rfl (.yes2 rfl rfl t5) (fun _ _ h => h.ch) nB rfl ?_
      refine L_y (ePtr jA (0 : Int) 1) rfl rfl rfl rfl t5 (P_indexAddr (α := Int) Try.underlying22 Try.sizeOf3 rfl cB rfl lA) ?_
      refine L_ld (c := .int .i64 (j7)) rfl rfl (.yes2 rfl rfl t5) (fun _ _ h => h.ch) oB rfl ?_
      refine L_y (fPtr p2 0) rfl rfl rfl rfl t5 (P_fieldAddr at_25_0 rfl (PT.ptr q2)) ?_
      refine L_ld (c := mA) rfl rfl (.yes2 rfl rfl t5) (fun _ _ h => h.ch) tB rfl ?_
      refine L_y (ePtr mA (0 : Int) 1) rfl rfl rfl rfl t5 (P_indexAddr (α := Int) Try.underlying22 Try.sizeOf3 rfl dB rfl nA) ?_
      refine L_ld (c := .int .i64 (m7)) rfl rfl (.yes2 rfl rfl t5) (fun _ _ h => h.ch) vB rfl ?_
      refine L_y (.bool ((j7 != m7))) rfl rfl rfl rfl t5 (P_int rfl rfl rfl) ?_
      refine L_p (.bool ((j7 != m7))) rfl rfl (P_pick (b := ((((x0).Boxes).length : Int) != (2 : Int))) rfl (pick_f t5 rfl)) ?_
      refine L_p (.bool ((j7 != m7))) rfl rfl (P_move rfl) ?_
      refine L_y (fPtr p1 0) rfl rfl rfl rfl b7 (P_fieldAddr at_25_0 rfl (PT.ptr q1)) ?_
      refine L_ld (c := oD) rfl rfl (.yes2 rfl rfl b7) (fun _ _ h => h.ch) zE rfl ?_
      refine L_y (ePtr oD (1 : Int) 1) rfl rfl rfl rfl b7 (P_indexAddr (α := Int) Try.underlying22 Try.sizeOf3 rfl sD rfl xB) ?_
      refine L_ld (c := .int .i64 (d9)) rfl rfl (.yes2 rfl rfl b7) (fun _ _ h => h.ch) cF rfl ?_
      refine L_y (fPtr p2 0) rfl rfl rfl rfl b7 (P_fieldAddr at_25_0 rfl (PT.ptr q2)) ?_
      refine L_ld (c := tD) rfl rfl (.yes2 rfl rfl b7) (fun _ _ h => h.ch) dF rfl ?_
      refine L_y (ePtr tD (1 : Int) 1) rfl rfl rfl rfl b7 (P_indexAddr (α := Int) Try.underlying22 Try.sizeOf3 rfl uD rfl yB) ?_
      refine L_ld (c := .int .i64 (i9)) rfl rfl (.yes2 rfl rfl b7) (fun _ _ h => h.ch) eF rfl ?_
      refine L_y (.bool ((d9 != i9))) rfl rfl rfl rfl b7 (P_int rfl rfl rfl) ?_
      refine L_p (.bool ((d9 != i9))) rfl rfl (P_pick (b := (j7 != m7)) rfl (pick_f b7 rfl)) ?_
      refine L_nl fun mH mJ hs => ?_
      have hfr := hfr.ext hs
      have q1 := q1.ext hs
      have q2 := q2.ext hs
      have q3 := q3.ext hs
      clear hs
      refine EL_nil ?_
      obtain rfl := sinj h
      exact hQ _ _ ⟨mH, hfr, rfl, q1, rfl, q2, rfl, q3, rfl⟩
  ·clear hx
   obtain ⟨nH, hfr, vD, xD, yD, zD, aE, bE, o9⟩ := hR
   rcases csome h with ⟨oA, h⟩ | ⟨oA, h⟩
   ·refine E_cond_true (Eq.trans (show ev _ _ = .bool (v7) from o9) (congrArg Value.bool oA)) ?_
    refine E_seq (E_region (EL_at (.bool false) rfl rfl ?_))
    refine EL_nil (thn_n (E_ret (thn_r ?_)))
    obtain rfl := sinj h
    exact end1 rfl rfl (show _ = .bool false from rfl) ⟨_, hfr, rfl⟩
   ·refine E_cond_false (Eq.trans (show ev _ _ = .bool (v7) from o9) (congrArg Value.bool oA)) ?_
    exact E_skip (thn_n (yE () _ _ ⟨nH, hfr, vD, xD, yD, zD, aE, bE⟩ h))
 ·rintro _ xH nJ ⟨oH, hfr, cE, dE, eE, gE, iE, jE⟩ h
  refine E_joinC h (fun (s : Unit) e w => ∃ (g : Gh) , Fr gI wI g w) (fun X2725 eB kE h => ?_) ?_
  ·refine E_seq (E_region (EL_at (.int .i64 (0)) rfl rfl ?_))
   refine EL_nil (thn_n (E_block ?_))
   refine E_lp h (fun (s : Int) e w => ∃ (g : Gh) , Fr gI wI g w ∧ e 3 = p1 ∧ PT g.m w (x0 : BoxLoom) p1 ∧ e 4 = p2 ∧ PT g.m w (x1 : BoxLoom) p2 ∧ e 5 = p3 ∧ PT g.m w (x2 : Vector (Vector Int 4) 2) p3 ∧ e 7 = .int .i64 (s)) ⟨oH, hfr, cE, dE, eE, gE, iE, jE, rfl⟩ (fun X2726 iB lE => ?_)
   rintro i5 pH yH ⟨pA, hfr, t9, v8, mC, qC, rC, tC, u9⟩ h
   refine E_joinC h (fun (s : Unit) e w => ∃ (g : Gh) , Fr gI wI g w ∧ e 3 = p1 ∧ PT g.m w (x0 : BoxLoom) p1 ∧ e 4 = p2 ∧ PT g.m w (x1 : BoxLoom) p2 ∧ e 5 = p3 ∧ PT g.m w (x2 : Vector (Vector Int 4) 2) p3 ∧ e 7 = .int .i64 (i5)) (fun X2731 mB mE h => ?_) ?_
   ·refine E_seq (E_region (EL_mv u9 rfl ?_))
    refine EL_p (fPtr p1 2) (P_fieldAddr at_25_2 t9 (PT.ptr v8)) rfl ?_
    have iF := PT_field (part_BoxLoom_2).1 v8
    refine EL_do .plain rfl (D_load (g := pA) Try.isAgg23 Try.sizeOf23 rfl iF fun zH nF => ?_)
    refine EL_p (.int .i64 (((x0).Shuttles).length : Int)) (P_len Try.underlying23 rfl nF) rfl ?_
    refine EL_p (.bool ((decide (i5 < (((x0).Shuttles).length : Int))))) (P_int rfl rfl rfl) rfl ?_
    refine EL_nil (thn_n ?_)
    rcases csome h with ⟨k9, h⟩ | ⟨k9, h⟩
    ·refine E_ct k9 rfl ?_
     exact E_skip (thn_n (mE () _ _ ⟨pA, hfr, t9, v8, mC, qC, rC, tC, u9⟩ h))
    ·refine E_cf k9 rfl ?_
     refine E_exit ?_
     refine thn_e ?_
     refine thn_e ?_
     refine blk_hit ?_
     exact thn_n (kE () _ _ ⟨pA, hfr⟩ h)
   ·rintro _ qH oF ⟨zB, hfr, c7, j3, d7, u3, g7, z3, x6⟩ h
    refine E_joinC h (fun (s : Unit) e w => ∃ (g : Gh) , Fr gI wI g w ∧ e 3 = p1 ∧ PT g.m w (x0 : BoxLoom) p1 ∧ e 4 = p2 ∧ PT g.m w (x1 : BoxLoom) p2 ∧ e 5 = p3 ∧ PT g.m w (x2 : Vector (Vector Int 4) 2) p3 ∧ e 7 = .int .i64 (i5)) (fun X3685 jB nE h => ?_) ?_
    ·refine E_block ?_
     refine E_seq ?_
     have pF := PT_field (part_BoxLoom_2).1 j3
     refine L_load (x := .tmp 52) Try.isAgg23 Try.sizeOf23 pF fun aC cC oE => ?_
     obtain ⟨o0, rA, h⟩ := bsome h
     have qF := PT_idx cC rA
     refine L_load (x := .tmp 55) Try.isAgg87 Try.sizeOf87 qF fun dC qA rE => ?_
     have rF := PT_field (part_BoxLoom_2).1 u3
     refine L_load (x := .tmp 57) Try.isAgg23 Try.sizeOf23 rF fun eC iC sE => ?_
     obtain ⟨j1, uA, h⟩ := bsome h
     have sF := PT_idx iC uA
     refine L_load (x := .tmp 60) Try.isAgg87 Try.sizeOf87 sF fun jC r8 tE => ?_
     refine E_drawTL (g := zB) (n := 12) [5, 6, 7, 8, 9] [(10, (fun v g w => OB 2008 g w 87 (⟨0, 0, 0, ⟨0, 0⟩⟩ : BoxShuttle) v)), (11, (fun v g w => OB 2009 g w 87 (⟨0, 0, 0, ⟨0, 0⟩⟩ : BoxShuttle) v))] [0, 1, 2, 3, 4, 5, 6, 7, 8, 9, 10, 11] rfl mixed (by kernel_rfl) (⟨fun _ => up_ob, fun _ => up_ob, trivial⟩) rfl ?_
     refine L_p (fPtr p1 2) rfl rfl (P_fieldAddr at_25_2 c7 (PT.ptr j3)) ?_
     refine L_ld (c := aC) rfl rfl .plain (fun _ _ h => h.ch) oE rfl ?_
     refine L_p (.int .i64 (i5)) rfl rfl (P_move x6) ?_
     refine L_p (ePtr aC i5 5) rfl rfl (P_indexAddr (α := BoxShuttle) Try.underlying23 Try.sizeOf87 rfl cC rfl rA) ?_
     refine L_ld (c := dC) rfl rfl .plain (fun _ _ h => h.ch) rE rfl ?_
     refine L_purL (c := fPtr p2 2) rfl rfl .plain (P_fieldAddr at_25_2 d7 (PT.ptr u3)) ?_
     refine L_ldL (c := eC) rfl rfl .plain (fun _ _ h => h.ch) rfl sE rfl ?_
     refine L_purL (c := .int .i64 (i5)) rfl rfl .plain (P_move x6) ?_
     refine L_purL (c := ePtr eC i5 5) rfl rfl .plain (P_indexAddr (α := BoxShuttle) Try.underlying23 Try.sizeOf87 rfl iC rfl uA) ?_
     refine L_ldL (c := jC) rfl rfl .plain (fun _ _ h => h.ch) rfl tE rfl ?_
     refine L_do (φ := fun v g w => OB 2008 g w 87 (⟨0, 0, 0, ⟨0, 0⟩⟩ : BoxShuttle) v) rfl rfl .plain (fun g w hd => D_allocX (g := g) 2008 (⟨0, 0, 0, ⟨0, 0⟩⟩ : BoxShuttle) Try.zeroValue87 (fun m w => ⟨_, (rep_two rep_int (rep_two rep_int (rep_two rep_int (rep_two rep_int rep_int)))), rfl⟩) fun g' w' v hs b => ⟨g', hs, b⟩) (fun z4 hv => ?_)
     clear hv
     refine L_do (φ := fun v g w => OB 2009 g w 87 (⟨0, 0, 0, ⟨0, 0⟩⟩ : BoxShuttle) v) rfl rfl .plain (fun g w hd => D_allocX (g := g) 2009 (⟨0, 0, 0, ⟨0, 0⟩⟩ : BoxShuttle) Try.zeroValue87 (fun m w => ⟨_, (rep_two rep_int (rep_two rep_int (rep_two rep_int (rep_two rep_int rep_int)))), rfl⟩) fun g' w' v hs b => ⟨g', hs, b⟩) (fun y6 hv => ?_)
     clear hv
     refine L_nil fun kC tF hall => ?_
     have hs := hall.1
     have hlt : Lt zB.m oF kC tF := hs.ch
     have hfr := hfr.ext hs
     have j3 := j3.ext hs
     have u3 := u3.ext hs
     have z3 := z3.ext hs
     have qA := qA.ext hs
     have r8 := r8.ext hs
     have b3713 := (word_all (A := fun g w => OB 2008 g w 87 (⟨0, 0, 0, ⟨0, 0⟩⟩ : BoxShuttle) z4) 10 rfl hall)
     have b3714 := (word_all (A := fun g w => OB 2009 g w 87 (⟨0, 0, 0, ⟨0, 0⟩⟩ : BoxShuttle) y6) 11 rfl hall)
     clear hs hall
     refine TL_do hlt.w .plain rfl (D_storeOc (g := kC) (v := dC) Try.sizeOf87 rfl b3713 rfl qA fun uF aI hs b3715 cb => ?_)
     clear cb
     have hfr := hfr.stp hs
     have hlt := hlt.stp hs
     have j3 := j3.stp hs
     have u3 := u3.stp hs
     have z3 := z3.stp hs
     have r8 := r8.stp hs
     have b3714 := b3714.stp hs rfl
     refine TL_do hlt.w .plain rfl (D_storeOc (g := uF) (v := jC) Try.sizeOf87 rfl b3714 rfl r8 fun i8 bI hs b3716 cb => ?_)
     clear cb
     have hfr := hfr.stp hs
     have hlt := hlt.stp hs
     have j3 := j3.stp hs
     have u3 := u3.stp hs
     have z3 := z3.stp hs
     have b3715 := b3715.stp hs rfl
     refine TL_nil hlt.w ?_
     clear hlt
     refine thn_n ?_
     obtain ⟨i7, hx, h⟩ := bsome h
     refine E_join (fun e w => ∃ (g : Gh) , Fr gI wI g w ∧ e 3 = p1 ∧ PT g.m w (x0 : BoxLoom) p1 ∧ e 4 = p2 ∧ PT g.m w (x1 : BoxLoom) p2 ∧ e 5 = p3 ∧ PT g.m w (x2 : Vector (Vector Int 4) 2) p3 ∧ e 7 = .int .i64 (i5) ∧ e 105 = .bool (i7)) (fun Q' hQ => ?_) (fun sH cI hR => ?_)
     ·replace h := hx
      clear hx
      refine L_loadO (x := .tmp 62) part_BoxShuttle_0.1 Try.isAgg3 Try.sizeOf3 b3715 fun dI vF o7 => ?_
      obtain rfl := RV_int.1 vF
      refine L_loadO (x := .tmp 64) part_BoxShuttle_0.1 Try.isAgg3 Try.sizeOf3 b3716 fun iI xF u7 => ?_
      obtain rfl := RV_int.1 xF
      rcases csome h with ⟨i3, h⟩ | ⟨i3, h⟩
      ·refine E_drawL (g := i8) (n := 44) [] [0, 1, 2, 3, 4, 5, 6, 7, 8, 9, 10, 11, 12, 13, 14, 15, 16, 17, 18, 19, 20, 21, 22, 23, 24, 25, 26, 27, 28, 29, 30, 31, 32, 33, 34, 35, 36, 37, 38, 39, 40, 41, 42, 43] rfl mixed (by kernel_rfl) trivial ?_
       refine L_p (fPtr z4 0) rfl rfl (P_fieldAddr at_87_0 rfl (OB.ptr b3715)) ?_
       refine L_ld (c := .int .i64 ((o0).Colour)) rfl rfl .plain (fun _ _ h => ⟨h.ch, fun b hb _ => h.below.block b hb⟩) o7 rfl ?_
       refine L_p (fPtr y6 0) rfl rfl (P_fieldAddr at_87_0 rfl (OB.ptr b3716)) ?_
       refine L_ld (c := .int .i64 ((j1).Colour)) rfl rfl .plain (fun _ _ h => ⟨h.ch, fun b hb _ => h.below.block b hb⟩) u7 rfl ?_
       refine L_p (.bool (((o0).Colour != (j1).Colour))) rfl rfl (P_int rfl rfl rfl) ?_
       refine L_p (.bool (((o0).Colour != (j1).Colour))) rfl rfl (P_move rfl) ?_
       iterate 5 refine L_s rfl rfl rfl i3 rfl ?_
       refine L_p (.bool true) rfl rfl (P_pick (b := ((o0).Colour != (j1).Colour)) rfl (pick_t i3 rfl)) ?_
       refine L_dead (fun _ => rfl) 32 rfl ?_
       refine L_nl fun yF jI hs => ?_
       have hfr := hfr.ext hs
       have j3 := j3.ext hs
       have u3 := u3.ext hs
       have z3 := z3.ext hs
       clear hs
       refine EL_nil ?_
       obtain rfl := sinj h
       exact hQ _ _ ⟨yF, hfr, c7, j3, d7, u3, g7, z3, x6, rfl⟩
      ·refine L_loadO (x := .tmp 68) part_BoxShuttle_3.1 Try.isAgg85 Try.sizeOf85 b3715 fun l8 m8 c8 => ?_
       refine L_loadO (x := .tmp 70) part_BoxShuttle_3.1 Try.isAgg85 Try.sizeOf85 b3716 fun n8 o8 g8 => ?_
       rcases csome h with ⟨l5, h⟩ | ⟨l5, h⟩
       ·refine E_drawL (g := i8) (n := 44) [] [0, 1, 2, 3, 4, 5, 6, 7, 8, 9, 10, 11, 12, 13, 14, 15, 16, 17, 18, 19, 20, 21, 22, 23, 24, 25, 26, 27, 28, 29, 30, 31, 32, 33, 34, 35, 36, 37, 38, 39, 40, 41, 42, 43] rfl mixed (by kernel_rfl) trivial ?_
        refine L_p (fPtr z4 0) rfl rfl (P_fieldAddr at_87_0 rfl (OB.ptr b3715)) ?_
        refine L_ld (c := .int .i64 ((o0).Colour)) rfl rfl .plain (fun _ _ h => ⟨h.ch, fun b hb _ => h.below.block b hb⟩) o7 rfl ?_
        refine L_p (fPtr y6 0) rfl rfl (P_fieldAddr at_87_0 rfl (OB.ptr b3716)) ?_
        refine L_ld (c := .int .i64 ((j1).Colour)) rfl rfl .plain (fun _ _ h => ⟨h.ch, fun b hb _ => h.below.block b hb⟩) u7 rfl ?_
        refine L_p (.bool (((o0).Colour != (j1).Colour))) rfl rfl (P_int rfl rfl rfl) ?_
        refine L_p (.bool (((o0).Colour != (j1).Colour))) rfl rfl (P_move rfl) ?_
        refine L_y (fPtr z4 3) rfl rfl rfl rfl i3 (P_fieldAddr at_87_3 rfl (OB.ptr b3715)) ?_
        refine L_ld (c := l8) rfl rfl (.yes2 rfl rfl i3) (fun _ _ h => ⟨h.ch, fun b hb _ => h.below.block b hb⟩) c8 rfl ?_
        refine L_y (fPtr y6 3) rfl rfl rfl rfl i3 (P_fieldAddr at_87_3 rfl (OB.ptr b3716)) ?_
        refine L_ld (c := n8) rfl rfl (.yes2 rfl rfl i3) (fun _ _ h => ⟨h.ch, fun b hb _ => h.below.block b hb⟩) g8 rfl ?_
        refine L_y (.bool ((!(decide ((o0).Yarn = (j1).Yarn))))) rfl rfl rfl rfl i3 (P_sne seq_85 rfl eg_85 rfl rfl m8 o8) ?_
        refine L_p (.bool ((!(decide ((o0).Yarn = (j1).Yarn))))) rfl rfl (P_pick (b := ((o0).Colour != (j1).Colour)) rfl (pick_f i3 rfl)) ?_
        refine L_p (.bool ((!(decide ((o0).Yarn = (j1).Yarn))))) rfl rfl (P_move rfl) ?_
        iterate 3 refine L_s rfl rfl rfl l5 rfl ?_
        refine L_p (.bool true) rfl rfl (P_pick (b := (!(decide ((o0).Yarn = (j1).Yarn)))) rfl (pick_t l5 rfl)) ?_
        refine L_dead (fun _ => rfl) 27 rfl ?_
        refine L_nl fun zF kI hs => ?_
        have hfr := hfr.ext hs
        have j3 := j3.ext hs
        have u3 := u3.ext hs
        have z3 := z3.ext hs
        clear hs
        refine EL_nil ?_
        obtain rfl := sinj h
        exact hQ _ _ ⟨zF, hfr, c7, j3, d7, u3, g7, z3, x6, rfl⟩
       ·refine L_loadO (x := .tmp 75) part_BoxShuttle_1.1 Try.isAgg3 Try.sizeOf3 b3715 fun lI aG k8 => ?_
        obtain rfl := RV_int.1 aG
        rcases csome h with ⟨x5, h⟩ | ⟨x5, h⟩
        ·refine E_drawL (g := i8) (n := 44) [] [0, 1, 2, 3, 4, 5, 6, 7, 8, 9, 10, 11, 12, 13, 14, 15, 16, 17, 18, 19, 20, 21, 22, 23, 24, 25, 26, 27, 28, 29, 30, 31, 32, 33, 34, 35, 36, 37, 38, 39, 40, 41, 42, 43] rfl mixed (by kernel_rfl) trivial ?_
         refine L_p (fPtr z4 0) rfl rfl (P_fieldAddr at_87_0 rfl (OB.ptr b3715)) ?_
         refine L_ld (c := .int .i64 ((o0).Colour)) rfl rfl .plain (fun _ _ h => ⟨h.ch, fun b hb _ => h.below.block b hb⟩) o7 rfl ?_
         refine L_p (fPtr y6 0) rfl rfl (P_fieldAddr at_87_0 rfl (OB.ptr b3716)) ?_
         refine L_ld (c := .int .i64 ((j1).Colour)) rfl rfl .plain (fun _ _ h => ⟨h.ch, fun b hb _ => h.below.block b hb⟩) u7 rfl ?_
         refine L_p (.bool (((o0).Colour != (j1).Colour))) rfl rfl (P_int rfl rfl rfl) ?_
         refine L_p (.bool (((o0).Colour != (j1).Colour))) rfl rfl (P_move rfl) ?_
         refine L_y (fPtr z4 3) rfl rfl rfl rfl i3 (P_fieldAddr at_87_3 rfl (OB.ptr b3715)) ?_
         refine L_ld (c := l8) rfl rfl (.yes2 rfl rfl i3) (fun _ _ h => ⟨h.ch, fun b hb _ => h.below.block b hb⟩) c8 rfl ?_
         refine L_y (fPtr y6 3) rfl rfl rfl rfl i3 (P_fieldAddr at_87_3 rfl (OB.ptr b3716)) ?_
         refine L_ld (c := n8) rfl rfl (.yes2 rfl rfl i3) (fun _ _ h => ⟨h.ch, fun b hb _ => h.below.block b hb⟩) g8 rfl ?_
         refine L_y (.bool ((!(decide ((o0).Yarn = (j1).Yarn))))) rfl rfl rfl rfl i3 (P_sne seq_85 rfl eg_85 rfl rfl m8 o8) ?_
         refine L_p (.bool ((!(decide ((o0).Yarn = (j1).Yarn))))) rfl rfl (P_pick (b := ((o0).Colour != (j1).Colour)) rfl (pick_f i3 rfl)) ?_
         refine L_p (.bool ((!(decide ((o0).Yarn = (j1).Yarn))))) rfl rfl (P_move rfl) ?_
         refine L_y (fPtr z4 1) rfl rfl rfl rfl l5 (P_fieldAddr at_87_1 rfl (OB.ptr b3715)) ?_
         refine L_ld (c := .int .i64 ((o0).Side)) rfl rfl (.yes2 rfl rfl l5) (fun _ _ h => ⟨h.ch, fun b hb _ => h.below.block b hb⟩) k8 rfl ?_
         refine L_y (.bool ((decide ((o0).Side < (0 : Int))))) rfl rfl rfl rfl l5 (P_int rfl rfl rfl) ?_
         refine L_p (.bool ((decide ((o0).Side < (0 : Int))))) rfl rfl (P_pick (b := (!(decide ((o0).Yarn = (j1).Yarn)))) rfl (pick_f l5 rfl)) ?_
         refine L_p (.bool ((decide ((o0).Side < (0 : Int))))) rfl rfl (P_move rfl) ?_
         iterate 3 refine L_s rfl rfl rfl x5 rfl ?_
         refine L_p (.bool true) rfl rfl (P_pick (b := (decide ((o0).Side < (0 : Int)))) rfl (pick_t x5 rfl)) ?_
         refine L_dead (fun _ => rfl) 22 rfl ?_
         refine L_nl fun bG mI hs => ?_
         have hfr := hfr.ext hs
         have j3 := j3.ext hs
         have u3 := u3.ext hs
         have z3 := z3.ext hs
         clear hs
         refine EL_nil ?_
         obtain rfl := sinj h
         exact hQ _ _ ⟨bG, hfr, c7, j3, d7, u3, g7, z3, x6, rfl⟩
        ·refine L_loadO (x := .tmp 80) part_BoxShuttle_1.1 Try.isAgg3 Try.sizeOf3 b3715 fun nI cG t8 => ?_
         obtain rfl := RV_int.1 cG
         rcases csome h with ⟨i6, h⟩ | ⟨i6, h⟩
         ·refine E_drawL (g := i8) (n := 44) [] [0, 1, 2, 3, 4, 5, 6, 7, 8, 9, 10, 11, 12, 13, 14, 15, 16, 17, 18, 19, 20, 21, 22, 23, 24, 25, 26, 27, 28, 29, 30, 31, 32, 33, 34, 35, 36, 37, 38, 39, 40, 41, 42, 43] rfl mixed (by kernel_rfl) trivial ?_
          refine L_p (fPtr z4 0) rfl rfl (P_fieldAddr at_87_0 rfl (OB.ptr b3715)) ?_
          refine L_ld (c := .int .i64 ((o0).Colour)) rfl rfl .plain (fun _ _ h => ⟨h.ch, fun b hb _ => h.below.block b hb⟩) o7 rfl ?_
          refine L_p (fPtr y6 0) rfl rfl (P_fieldAddr at_87_0 rfl (OB.ptr b3716)) ?_
          refine L_ld (c := .int .i64 ((j1).Colour)) rfl rfl .plain (fun _ _ h => ⟨h.ch, fun b hb _ => h.below.block b hb⟩) u7 rfl ?_
          refine L_p (.bool (((o0).Colour != (j1).Colour))) rfl rfl (P_int rfl rfl rfl) ?_
          refine L_p (.bool (((o0).Colour != (j1).Colour))) rfl rfl (P_move rfl) ?_
          refine L_y (fPtr z4 3) rfl rfl rfl rfl i3 (P_fieldAddr at_87_3 rfl (OB.ptr b3715)) ?_
          refine L_ld (c := l8) rfl rfl (.yes2 rfl rfl i3) (fun _ _ h => ⟨h.ch, fun b hb _ => h.below.block b hb⟩) c8 rfl ?_
          refine L_y (fPtr y6 3) rfl rfl rfl rfl i3 (P_fieldAddr at_87_3 rfl (OB.ptr b3716)) ?_
          refine L_ld (c := n8) rfl rfl (.yes2 rfl rfl i3) (fun _ _ h => ⟨h.ch, fun b hb _ => h.below.block b hb⟩) g8 rfl ?_
          refine L_y (.bool ((!(decide ((o0).Yarn = (j1).Yarn))))) rfl rfl rfl rfl i3 (P_sne seq_85 rfl eg_85 rfl rfl m8 o8) ?_
          refine L_p (.bool ((!(decide ((o0).Yarn = (j1).Yarn))))) rfl rfl (P_pick (b := ((o0).Colour != (j1).Colour)) rfl (pick_f i3 rfl)) ?_
          refine L_p (.bool ((!(decide ((o0).Yarn = (j1).Yarn))))) rfl rfl (P_move rfl) ?_
          refine L_y (fPtr z4 1) rfl rfl rfl rfl l5 (P_fieldAddr at_87_1 rfl (OB.ptr b3715)) ?_
          refine L_ld (c := .int .i64 ((o0).Side)) rfl rfl (.yes2 rfl rfl l5) (fun _ _ h => ⟨h.ch, fun b hb _ => h.below.block b hb⟩) k8 rfl ?_
          refine L_y (.bool ((decide ((o0).Side < (0 : Int))))) rfl rfl rfl rfl l5 (P_int rfl rfl rfl) ?_
          refine L_p (.bool ((decide ((o0).Side < (0 : Int))))) rfl rfl (P_pick (b := (!(decide ((o0).Yarn = (j1).Yarn)))) rfl (pick_f l5 rfl)) ?_
          refine L_p (.bool ((decide ((o0).Side < (0 : Int))))) rfl rfl (P_move rfl) ?_
          refine L_y (fPtr z4 1) rfl rfl rfl rfl x5 (P_fieldAddr at_87_1 rfl (OB.ptr b3715)) ?_
          refine L_ld (c := .int .i64 ((o0).Side)) rfl rfl (.yes2 rfl rfl x5) (fun _ _ h => ⟨h.ch, fun b hb _ => h.below.block b hb⟩) t8 rfl ?_
          refine L_y (.bool ((decide ((o0).Side > (1 : Int))))) rfl rfl rfl rfl x5 (P_int rfl rfl rfl) ?_
          refine L_p (.bool ((decide ((o0).Side > (1 : Int))))) rfl rfl (P_pick (b := (decide ((o0).Side < (0 : Int)))) rfl (pick_f x5 rfl)) ?_
          refine L_p (.bool ((decide ((o0).Side > (1 : Int))))) rfl rfl (P_move rfl) ?_
          iterate 3 refine L_s rfl rfl rfl i6 rfl ?_
          refine L_p (.bool true) rfl rfl (P_pick (b := (decide ((o0).Side > (1 : Int)))) rfl (pick_t i6 rfl)) ?_
          refine L_dead (fun _ => rfl) 17 rfl ?_
          refine L_nl fun dG pI hs => ?_
          have hfr := hfr.ext hs
          have j3 := j3.ext hs
          have u3 := u3.ext hs
          have z3 := z3.ext hs
          clear hs
          refine EL_nil ?_
          obtain rfl := sinj h
          exact hQ _ _ ⟨dG, hfr, c7, j3, d7, u3, g7, z3, x6, rfl⟩
         ·refine L_loadO (x := .tmp 85) part_BoxShuttle_2.1 Try.isAgg3 Try.sizeOf3 b3715 fun qI eG l9 => ?_
          obtain rfl := RV_int.1 eG
          rcases csome h with ⟨a7, h⟩ | ⟨a7, h⟩
          ·refine E_drawL (g := i8) (n := 44) [] [0, 1, 2, 3, 4, 5, 6, 7, 8, 9, 10, 11, 12, 13, 14, 15, 16, 17, 18, 19, 20, 21, 22, 23, 24, 25, 26, 27, 28, 29, 30, 31, 32, 33, 34, 35, 36, 37, 38, 39, 40, 41, 42, 43] rfl mixed (by kernel_rfl) trivial ?_
           refine L_p (fPtr z4 0) rfl rfl (P_fieldAddr at_87_0 rfl (OB.ptr b3715)) ?_
           refine L_ld (c := .int .i64 ((o0).Colour)) rfl rfl .plain (fun _ _ h => ⟨h.ch, fun b hb _ => h.below.block b hb⟩) o7 rfl ?_
           refine L_p (fPtr y6 0) rfl rfl (P_fieldAddr at_87_0 rfl (OB.ptr b3716)) ?_
           refine L_ld (c := .int .i64 ((j1).Colour)) rfl rfl .plain (fun _ _ h => ⟨h.ch, fun b hb _ => h.below.block b hb⟩) u7 rfl ?_
           refine L_p (.bool (((o0).Colour != (j1).Colour))) rfl rfl (P_int rfl rfl rfl) ?_
           refine L_p (.bool (((o0).Colour != (j1).Colour))) rfl rfl (P_move rfl) ?_
           refine L_y (fPtr z4 3) rfl rfl rfl rfl i3 (P_fieldAddr at_87_3 rfl (OB.ptr b3715)) ?_
           refine L_ld (c := l8) rfl rfl (.yes2 rfl rfl i3) (fun _ _ h => ⟨h.ch, fun b hb _ => h.below.block b hb⟩) c8 rfl ?_
           refine L_y (fPtr y6 3) rfl rfl rfl rfl i3 (P_fieldAddr at_87_3 rfl (OB.ptr b3716)) ?_
           refine L_ld (c := n8) rfl rfl (.yes2 rfl rfl i3) (fun _ _ h => ⟨h.ch, fun b hb _ => h.below.block b hb⟩) g8 rfl ?_
           refine L_y (.bool ((!(decide ((o0).Yarn = (j1).Yarn))))) rfl rfl rfl rfl i3 (P_sne seq_85 rfl eg_85 rfl rfl m8 o8) ?_
           refine L_p (.bool ((!(decide ((o0).Yarn = (j1).Yarn))))) rfl rfl (P_pick (b := ((o0).Colour != (j1).Colour)) rfl (pick_f i3 rfl)) ?_
           refine L_p (.bool ((!(decide ((o0).Yarn = (j1).Yarn))))) rfl rfl (P_move rfl) ?_
           refine L_y (fPtr z4 1) rfl rfl rfl rfl l5 (P_fieldAddr at_87_1 rfl (OB.ptr b3715)) ?_
           refine L_ld (c := .int .i64 ((o0).Side)) rfl rfl (.yes2 rfl rfl l5) (fun _ _ h => ⟨h.ch, fun b hb _ => h.below.block b hb⟩) k8 rfl ?_
           refine L_y (.bool ((decide ((o0).Side < (0 : Int))))) rfl rfl rfl rfl l5 (P_int rfl rfl rfl) ?_
           refine L_p (.bool ((decide ((o0).Side < (0 : Int))))) rfl rfl (P_pick (b := (!(decide ((o0).Yarn = (j1).Yarn)))) rfl (pick_f l5 rfl)) ?_
           refine L_p (.bool ((decide ((o0).Side < (0 : Int))))) rfl rfl (P_move rfl) ?_
           refine L_y (fPtr z4 1) rfl rfl rfl rfl x5 (P_fieldAddr at_87_1 rfl (OB.ptr b3715)) ?_
           refine L_ld (c := .int .i64 ((o0).Side)) rfl rfl (.yes2 rfl rfl x5) (fun _ _ h => ⟨h.ch, fun b hb _ => h.below.block b hb⟩) t8 rfl ?_
           refine L_y (.bool ((decide ((o0).Side > (1 : Int))))) rfl rfl rfl rfl x5 (P_int rfl rfl rfl) ?_
           refine L_p (.bool ((decide ((o0).Side > (1 : Int))))) rfl rfl (P_pick (b := (decide ((o0).Side < (0 : Int)))) rfl (pick_f x5 rfl)) ?_
           refine L_p (.bool ((decide ((o0).Side > (1 : Int))))) rfl rfl (P_move rfl) ?_
           refine L_y (fPtr z4 2) rfl rfl rfl rfl i6 (P_fieldAddr at_87_2 rfl (OB.ptr b3715)) ?_
           refine L_ld (c := .int .i64 ((o0).Box)) rfl rfl (.yes2 rfl rfl i6) (fun _ _ h => ⟨h.ch, fun b hb _ => h.below.block b hb⟩) l9 rfl ?_
           refine L_y (.bool ((decide ((o0).Box < (0 : Int))))) rfl rfl rfl rfl i6 (P_int rfl rfl rfl) ?_
           refine L_p (.bool ((decide ((o0).Box < (0 : Int))))) rfl rfl (P_pick (b := (decide ((o0).Side > (1 : Int)))) rfl (pick_f i6 rfl)) ?_
           refine L_p (.bool ((decide ((o0).Box < (0 : Int))))) rfl rfl (P_move rfl) ?_
           iterate 3 refine L_s rfl rfl rfl a7 rfl ?_
           refine L_p (.bool true) rfl rfl (P_pick (b := (decide ((o0).Box < (0 : Int)))) rfl (pick_t a7 rfl)) ?_
           refine L_dead (fun _ => rfl) 12 rfl ?_
           refine L_nl fun gG rI hs => ?_
           have hfr := hfr.ext hs
           have j3 := j3.ext hs
           have u3 := u3.ext hs
           have z3 := z3.ext hs
           clear hs
           refine EL_nil ?_
           obtain rfl := sinj h
           exact hQ _ _ ⟨gG, hfr, c7, j3, d7, u3, g7, z3, x6, rfl⟩
          ·refine L_loadO (x := .tmp 90) part_BoxShuttle_2.1 Try.isAgg3 Try.sizeOf3 b3715 fun sI hG xA => ?_
           obtain rfl := RV_int.1 hG
           rcases csome h with ⟨v6, h⟩ | ⟨v6, h⟩
           ·refine E_drawL (g := i8) (n := 44) [] [0, 1, 2, 3, 4, 5, 6, 7, 8, 9, 10, 11, 12, 13, 14, 15, 16, 17, 18, 19, 20, 21, 22, 23, 24, 25, 26, 27, 28, 29, 30, 31, 32, 33, 34, 35, 36, 37, 38, 39, 40, 41, 42, 43] rfl mixed (by kernel_rfl) trivial ?_
            refine L_p (fPtr z4 0) rfl rfl (P_fieldAddr at_87_0 rfl (OB.ptr b3715)) ?_
            refine L_ld (c := .int .i64 ((o0).Colour)) rfl rfl .plain (fun _ _ h => ⟨h.ch, fun b hb _ => h.below.block b hb⟩) o7 rfl ?_
            refine L_p (fPtr y6 0) rfl rfl (P_fieldAddr at_87_0 rfl (OB.ptr b3716)) ?_
            refine L_ld (c := .int .i64 ((j1).Colour)) rfl rfl .plain (fun _ _ h => ⟨h.ch, fun b hb _ => h.below.block b hb⟩) u7 rfl ?_
            refine L_p (.bool (((o0).Colour != (j1).Colour))) rfl rfl (P_int rfl rfl rfl) ?_
            refine L_p (.bool (((o0).Colour != (j1).Colour))) rfl rfl (P_move rfl) ?_
            refine L_y (fPtr z4 3) rfl rfl rfl rfl i3 (P_fieldAddr at_87_3 rfl (OB.ptr b3715)) ?_
            refine L_ld (c := l8) rfl rfl (.yes2 rfl rfl i3) (fun _ _ h => ⟨h.ch, fun b hb _ => h.below.block b hb⟩) c8 rfl ?_
            refine L_y (fPtr y6 3) rfl rfl rfl rfl i3 (P_fieldAddr at_87_3 rfl (OB.ptr b3716)) ?_
            refine L_ld (c := n8) rfl rfl (.yes2 rfl rfl i3) (fun _ _ h => ⟨h.ch, fun b hb _ => h.below.block b hb⟩) g8 rfl ?_
            refine L_y (.bool ((!(decide ((o0).Yarn = (j1).Yarn))))) rfl rfl rfl rfl i3 (P_sne seq_85 rfl eg_85 rfl rfl m8 o8) ?_
            refine L_p (.bool ((!(decide ((o0).Yarn = (j1).Yarn))))) rfl rfl (P_pick (b := ((o0).Colour != (j1).Colour)) rfl (pick_f i3 rfl)) ?_
            refine L_p (.bool ((!(decide ((o0).Yarn = (j1).Yarn))))) rfl rfl (P_move rfl) ?_
            refine L_y (fPtr z4 1) rfl rfl rfl rfl l5 (P_fieldAddr at_87_1 rfl (OB.ptr b3715)) ?_
            refine L_ld (c := .int .i64 ((o0).Side)) rfl rfl (.yes2 rfl rfl l5) (fun _ _ h => ⟨h.ch, fun b hb _ => h.below.block b hb⟩) k8 rfl ?_
            refine L_y (.bool ((decide ((o0).Side < (0 : Int))))) rfl rfl rfl rfl l5 (P_int rfl rfl rfl) ?_
            refine L_p (.bool ((decide ((o0).Side < (0 : Int))))) rfl rfl (P_pick (b := (!(decide ((o0).Yarn = (j1).Yarn)))) rfl (pick_f l5 rfl)) ?_
            refine L_p (.bool ((decide ((o0).Side < (0 : Int))))) rfl rfl (P_move rfl) ?_
            refine L_y (fPtr z4 1) rfl rfl rfl rfl x5 (P_fieldAddr at_87_1 rfl (OB.ptr b3715)) ?_
            refine L_ld (c := .int .i64 ((o0).Side)) rfl rfl (.yes2 rfl rfl x5) (fun _ _ h => ⟨h.ch, fun b hb _ => h.below.block b hb⟩) t8 rfl ?_
            refine L_y (.bool ((decide ((o0).Side > (1 : Int))))) rfl rfl rfl rfl x5 (P_int rfl rfl rfl) ?_
            refine L_p (.bool ((decide ((o0).Side > (1 : Int))))) rfl rfl (P_pick (b := (decide ((o0).Side < (0 : Int)))) rfl (pick_f x5 rfl)) ?_
            refine L_p (.bool ((decide ((o0).Side > (1 : Int))))) rfl rfl (P_move rfl) ?_
            refine L_y (fPtr z4 2) rfl rfl rfl rfl i6 (P_fieldAddr at_87_2 rfl (OB.ptr b3715)) ?_
            refine L_ld (c := .int .i64 ((o0).Box)) rfl rfl (.yes2 rfl rfl i6) (fun _ _ h => ⟨h.ch, fun b hb _ => h.below.block b hb⟩) l9 rfl ?_
            refine L_y (.bool ((decide ((o0).Box < (0 : Int))))) rfl rfl rfl rfl i6 (P_int rfl rfl rfl) ?_
            refine L_p (.bool ((decide ((o0).Box < (0 : Int))))) rfl rfl (P_pick (b := (decide ((o0).Side > (1 : Int)))) rfl (pick_f i6 rfl)) ?_
            refine L_p (.bool ((decide ((o0).Box < (0 : Int))))) rfl rfl (P_move rfl) ?_
            refine L_y (fPtr z4 2) rfl rfl rfl rfl a7 (P_fieldAddr at_87_2 rfl (OB.ptr b3715)) ?_
            refine L_ld (c := .int .i64 ((o0).Box)) rfl rfl (.yes2 rfl rfl a7) (fun _ _ h => ⟨h.ch, fun b hb _ => h.below.block b hb⟩) xA rfl ?_
            refine L_y (.bool ((decide ((o0).Box > (3 : Int))))) rfl rfl rfl rfl a7 (P_int rfl rfl rfl) ?_
            refine L_p (.bool ((decide ((o0).Box > (3 : Int))))) rfl rfl (P_pick (b := (decide ((o0).Box < (0 : Int)))) rfl (pick_f a7 rfl)) ?_
            refine L_p (.bool ((decide ((o0).Box > (3 : Int))))) rfl rfl (P_move rfl) ?_
            iterate 10 refine L_s rfl rfl rfl v6 rfl ?_
            refine L_p (.bool true) rfl rfl (P_pick (b := (decide ((o0).Box > (3 : Int)))) rfl (pick_t v6 rfl)) ?_
            refine L_nl fun iG tI hs => ?_
            have hfr := hfr.ext hs
            have j3 := j3.ext hs
            have u3 := u3.ext hs
            have z3 := z3.ext hs
            clear hs
            refine EL_nil ?_
            obtain rfl := sinj h
            exact hQ _ _ ⟨iG, hfr, c7, j3, d7, u3, g7, z3, x6, rfl⟩
           ·refine L_loadO (x := .tmp 95) part_BoxShuttle_1.1 Try.isAgg3 Try.sizeOf3 b3715 fun uI jG uE => ?_
            obtain rfl := RV_int.1 jG
            refine L_loadO (x := .tmp 97) part_BoxShuttle_2.1 Try.isAgg3 Try.sizeOf3 b3715 fun vI kG vE => ?_
            obtain rfl := RV_int.1 kG
            obtain ⟨lB, yA, h⟩ := bsome h
            have lC := PT_idxA z3 yA
            obtain ⟨q8, zA, h⟩ := bsome h
            have lG := PT_idxA lC zA
            refine L_load (x := .tmp 100) Try.isAgg3 Try.sizeOf3 lG fun xI mG xE => ?_
            obtain rfl := RV_int.1 mG
            refine E_drawL (g := i8) (n := 44) [] [0, 1, 2, 3, 4, 5, 6, 7, 8, 9, 10, 11, 12, 13, 14, 15, 16, 17, 18, 19, 20, 21, 22, 23, 24, 25, 26, 27, 28, 29, 30, 31, 32, 33, 34, 35, 36, 37, 38, 39, 40, 41, 42, 43] rfl mixed (by kernel_rfl) trivial ?_
            refine L_p (fPtr z4 0) rfl rfl (P_fieldAddr at_87_0 rfl (OB.ptr b3715)) ?_
            refine L_ld (c := .int .i64 ((o0).Colour)) rfl rfl .plain (fun _ _ h => ⟨h.ch, fun b hb _ => h.below.block b hb⟩) o7 rfl ?_
            refine L_p (fPtr y6 0) rfl rfl (P_fieldAddr at_87_0 rfl (OB.ptr b3716)) ?_
            refine L_ld (c := .int .i64 ((j1).Colour)) rfl rfl .plain (fun _ _ h => ⟨h.ch, fun b hb _ => h.below.block b hb⟩) u7 rfl ?_
            refine L_p (.bool (((o0).Colour != (j1).Colour))) rfl rfl (P_int rfl rfl rfl) ?_
            refine L_p (.bool (((o0).Colour != (j1).Colour))) rfl rfl (P_move rfl) ?_
            refine L_y (fPtr z4 3) rfl rfl rfl rfl i3 (P_fieldAddr at_87_3 rfl (OB.ptr b3715)) ?_
            refine L_ld (c := l8) rfl rfl (.yes2 rfl rfl i3) (fun _ _ h => ⟨h.ch, fun b hb _ => h.below.block b hb⟩) c8 rfl ?_
            refine L_y (fPtr y6 3) rfl rfl rfl rfl i3 (P_fieldAddr at_87_3 rfl (OB.ptr b3716)) ?_
            refine L_ld (c := n8) rfl rfl (.yes2 rfl rfl i3) (fun _ _ h => ⟨h.ch, fun b hb _ => h.below.block b hb⟩) g8 rfl ?_
            refine L_y (.bool ((!(decide ((o0).Yarn = (j1).Yarn))))) rfl rfl rfl rfl i3 (P_sne seq_85 rfl eg_85 rfl rfl m8 o8) ?_
            refine L_p (.bool ((!(decide ((o0).Yarn = (j1).Yarn))))) rfl rfl (P_pick (b := ((o0).Colour != (j1).Colour)) rfl (pick_f i3 rfl)) ?_
            refine L_p (.bool ((!(decide ((o0).Yarn = (j1).Yarn))))) rfl rfl (P_move rfl) ?_
            refine L_y (fPtr z4 1) rfl rfl rfl rfl l5 (P_fieldAddr at_87_1 rfl (OB.ptr b3715)) ?_
            refine L_ld (c := .int .i64 ((o0).Side)) rfl rfl (.yes2 rfl rfl l5) (fun _ _ h => ⟨h.ch, fun b hb _ => h.below.block b hb⟩) k8 rfl ?_
            refine L_y (.bool ((decide ((o0).Side < (0 : Int))))) rfl rfl rfl rfl l5 (P_int rfl rfl rfl) ?_
            refine L_p (.bool ((decide ((o0).Side < (0 : Int))))) rfl rfl (P_pick (b := (!(decide ((o0).Yarn = (j1).Yarn)))) rfl (pick_f l5 rfl)) ?_
            refine L_p (.bool ((decide ((o0).Side < (0 : Int))))) rfl rfl (P_move rfl) ?_
            refine L_y (fPtr z4 1) rfl rfl rfl rfl x5 (P_fieldAddr at_87_1 rfl (OB.ptr b3715)) ?_
            refine L_ld (c := .int .i64 ((o0).Side)) rfl rfl (.yes2 rfl rfl x5) (fun _ _ h => ⟨h.ch, fun b hb _ => h.below.block b hb⟩) t8 rfl ?_
            refine L_y (.bool ((decide ((o0).Side > (1 : Int))))) rfl rfl rfl rfl x5 (P_int rfl rfl rfl) ?_
            refine L_p (.bool ((decide ((o0).Side > (1 : Int))))) rfl rfl (P_pick (b := (decide ((o0).Side < (0 : Int)))) rfl (pick_f x5 rfl)) ?_
            refine L_p (.bool ((decide ((o0).Side > (1 : Int))))) rfl rfl (P_move rfl) ?_
            refine L_y (fPtr z4 2) rfl rfl rfl rfl i6 (P_fieldAddr at_87_2 rfl (OB.ptr b3715)) ?_
            refine L_ld (c := .int .i64 ((o0).Box)) rfl rfl (.yes2 rfl rfl i6) (fun _ _ h => ⟨h.ch, fun b hb _ => h.below.block b hb⟩) l9 rfl ?_
            refine L_y (.bool ((decide ((o0).Box < (0 : Int))))) rfl rfl rfl rfl i6 (P_int rfl rfl rfl) ?_
            refine L_p (.bool ((decide ((o0).Box < (0 : Int))))) rfl rfl (P_pick (b := (decide ((o0).Side > (1 : Int)))) rfl (pick_f i6 rfl)) ?_
            refine L_p (.bool ((decide ((o0).Box < (0 : Int))))) rfl rfl (P_move rfl) ?_
            refine L_y (fPtr z4 2) rfl rfl rfl rfl a7 (P_fieldAddr at_87_2 rfl (OB.ptr b3715)) ?_
            refine L_ld (c := .int .i64 ((o0).Box)) rfl rfl (.yes2 rfl rfl a7) (fun _ _ h => ⟨h.ch, fun b hb _ => h.below.block b hb⟩) xA rfl ?_
            refine L_y (.bool ((decide ((o0).Box > (3 : Int))))) rfl rfl rfl rfl a7 (P_int rfl rfl rfl) ?_
            refine L_p (.bool ((decide ((o0).Box > (3 : Int))))) rfl rfl (P_pick (b := (decide ((o0).Box < (0 : Int)))) rfl (pick_f a7 rfl)) ?_
            refine L_p (.bool ((decide ((o0).Box > (3 : Int))))) rfl rfl (P_move rfl) ?_
            refine L_y (fPtr z4 1) rfl rfl rfl rfl v6 (P_fieldAddr at_87_1 rfl (OB.ptr b3715)) ?_
            refine L_ld (c := .int .i64 ((o0).Side)) rfl rfl (.yes2 rfl rfl v6) (fun _ _ h => ⟨h.ch, fun b hb _ => h.below.block b hb⟩) uE rfl ?_
            refine L_y (fPtr z4 2) rfl rfl rfl rfl v6 (P_fieldAddr at_87_2 rfl (OB.ptr b3715)) ?_
            refine L_ld (c := .int .i64 ((o0).Box)) rfl rfl (.yes2 rfl rfl v6) (fun _ _ h => ⟨h.ch, fun b hb _ => h.below.block b hb⟩) vE rfl ?_
            refine L_y (fPtr p3 (((o0).Side : Int).toNat * 4)) rfl rfl rfl rfl v6 (P_indexAddrA (α := Vector Int 4) Try.underlying76 Try.sizeOf75 g7 (PT.ptr z3) rfl yA) ?_
            refine L_y (fPtr (fPtr p3 (((o0).Side : Int).toNat * 4)) (((o0).Box : Int).toNat * 1)) rfl rfl rfl rfl v6 (P_indexAddrA (α := Int) Try.underlying75 Try.sizeOf3 rfl (PT.ptr lC) rfl zA) ?_
            refine L_ld (c := .int .i64 (q8)) rfl rfl (.yes2 rfl rfl v6) (fun _ _ h => h.ch) xE rfl ?_
            refine L_y (.int .i64 (i5)) rfl rfl rfl rfl v6 (P_move x6) ?_
            refine L_y (.int .i64 ((w64 (i5 + (1 : Int))))) rfl rfl rfl rfl v6 (P_int rfl rfl rfl) ?_
            refine L_y (.bool ((q8 != (w64 (i5 + (1 : Int)))))) rfl rfl rfl rfl v6 (P_int rfl rfl rfl) ?_
            refine L_p (.bool ((q8 != (w64 (i5 + (1 : Int)))))) rfl rfl (P_pick (b := (decide ((o0).Box > (3 : Int)))) rfl (pick_f v6 rfl)) ?_
            refine L_nl fun nG yI hs => ?_
            have hfr := hfr.ext hs
            have j3 := j3.ext hs
            have u3 := u3.ext hs
            have z3 := z3.ext hs
            clear hs
            refine EL_nil ?_
            obtain rfl := sinj h
            exact hQ _ _ ⟨nG, hfr, c7, j3, d7, u3, g7, z3, x6, rfl⟩
     ·clear hx
      obtain ⟨oG, hfr, uC, vC, xC, yC, aD, bD, cD, x8⟩ := hR
      rcases csome h with ⟨n9, h⟩ | ⟨n9, h⟩
      ·refine E_cond_true (Eq.trans (show ev _ _ = .bool (i7) from x8) (congrArg Value.bool n9)) ?_
       refine E_seq (E_region (EL_at (.bool false) rfl rfl ?_))
       refine EL_nil (thn_n (E_ret (blk_r ?_)))
       refine thn_r ?_
       refine thn_r ?_
       refine blk_r ?_
       refine thn_r ?_
       obtain rfl := sinj h
       exact end1 rfl rfl (show _ = .bool false from rfl) ⟨_, hfr, rfl⟩
      ·refine E_cond_false (Eq.trans (show ev _ _ = .bool (i7) from x8) (congrArg Value.bool n9)) ?_
       exact E_skip (blk_n (thn_n (nE () _ _ ⟨oG, hfr, uC, vC, xC, yC, aD, bD, cD⟩ h)))
    ·rintro _ tH zI ⟨pG, hfr, eD, gD, iD, jD, kD, lD, mD⟩ h
     refine E_region (EL_mv mD rfl ?_)
     refine EL_in (.int .i64 ((w64 (i5 + (1 : Int))))) rfl rfl rfl rfl ?_
     refine EL_at (.int .i64 ((w64 (i5 + (1 : Int))))) rfl rfl ?_
     exact EL_nil (thn_n (lE ((w64 (i5 + (1 : Int)))) _ _ ⟨pG, hfr, eD, gD, iD, jD, kD, lD, rfl⟩ h))
  ·rintro _ uH aJ ⟨bJ, hfr⟩ h
   refine E_seq (E_region (EL_at (.bool true) rfl rfl ?_))
   refine EL_nil (thn_n (E_ret ?_))
   obtain rfl := sinj h
   exact end1 rfl rfl (show _ = .bool true from rfl) ⟨_, hfr, rfl⟩
def f42 (x0 : Int) (x1 : Int) : Option (Span) :=
 some ((⟨x0, x1⟩ : Span))
theorem en42 : Enters Try.prog 42 := enters_of Try.func42 (by kernel_rfl) rfl
theorem wk42 {gI : Gh} {wI : World} {x0 : Int} {x1 : Int}  {r : Span} (h : f42 x0 x1 = some r) : Fn Try.prog 42 #[.int .i64 (x0), .int .i64 (x1)] gI wI (fun m w v => RV m w (r) v) := by
 unfold f42 at h
 refine fn_of_E Try.func42 rfl (Nat.le_of_ble_eq_true rfl) fun g0 hm hfr => ?_
 show E _ 8 none _ _ _ _ _
 refine E_seq (E_region (EL_do .plain rfl (D_allocOc (g := g0) 2004 (⟨0, 0⟩ : Span) Try.zeroValue85 (fun m w => ⟨_, (rep_two rep_int rep_int), rfl⟩) fun g1 w1 p1 hs b1 cb => ?_)))
 have hfr := hfr.stp hs
 clear cb
 refine EL_nil (thn_n (E_seq (E_region (EL_mw (.int .i64 (x0)) rfl rfl ?_))))
 refine EL_mw (.int .i64 (x1)) rfl rfl ?_
 have r2 : RV g1.m w1 (⟨x0, x1⟩ : Span) (.agg (setCh [[.int .i64 0], [.int .i64 0]] [(0, .int .i64 (x0)), (1, .int .i64 (x1))]).flatten.toArray) := RV_build rfl (rep_pair (rfl) (rep_last (rfl)))
 generalize hv2 : (Value.agg (setCh [[.int .i64 0], [.int .i64 0]] [(0, .int .i64 (x0)), (1, .int .i64 (x1))]).flatten.toArray) = v2 at r2
 refine EL_p v2 (hv2 ▸ P_build (vs := [(0, .int .i64 (x0)), (1, .int .i64 (x1))]) [[.int .i64 0], [.int .i64 0]] lay_85 rfl rfl (.cons rfl (.cons rfl .nil)) ⟨⟨_, rfl, rfl⟩, ⟨⟨_, rfl, rfl⟩, trivial⟩⟩) rfl ?_
 refine EL_do .plain rfl (D_storeOc (g := g1) (v := v2) Try.sizeOf85 rfl b1 rfl r2 fun g3 w3 hs b3 cb => ?_)
 clear cb
 have hfr := hfr.stp hs
 refine EL_nil (thn_n (E_ret ?_))
 obtain rfl := sinj h
 obtain ⟨ad4, cv4, hp4, o0, cr4⟩ := ob_read Try.isAgg85 Try.sizeOf85 b3
 exact endm_c rfl rfl ((show _ = p1 from rfl).trans hp4) o0 ⟨_, hfr, cr4⟩
def f45 (x0 : BoxLoom) : Option ((Vector (Vector Int 4) 2)) :=
 Option.bind (α := (Vector (Vector Int 4) 2)) (
  lp (σ := (Vector (Vector Int 4) 2) × Int) (fun k94 (z3, o0) =>
   jn (σ := Unit) (fun _ =>
    Option.bind (α := (Vector (Vector Int 4) 2)) (
     (idx ((x0).Shuttles) o0).bind fun u3 =>
     (idx ((x0).Shuttles) o0).bind fun l5 =>
     (idx (z3).toList (u3).Side).bind fun q8 =>
     (idx (q8).toList (l5).Box).bind fun jA =>
     some ((vmod z3 ((u3).Side) (fun b => (vset b ((l5).Box) ((w64 (o0 + (1 : Int))))))))
     ) fun z4 =>
    k94 (z4, (w64 (o0 + (1 : Int))))
    ) fun iA =>
   bif (decide (o0 < (((x0).Shuttles).length : Int))) then
    iA ()
   else
    some (z3)
   ) big ((⟨List.toArray [(⟨List.toArray [0, 0, 0, 0], rfl⟩ : Vector Int 4), (⟨List.toArray [0, 0, 0, 0], rfl⟩ : Vector Int 4)], rfl⟩ : Vector (Vector Int 4) 2), (0 : Int))
  ) fun t5 =>
 some (t5)
theorem en45 : Enters Try.prog 45 := enters_of Try.func45 (by kernel_rfl) rfl
theorem wk45 {gI : Gh} {wI : World} {x0 : BoxLoom} {up0 : Value} (rp0 : RV gI.m wI x0 up0) {r : (Vector (Vector Int 4) 2)} (h : f45 x0 = some r) : Fn Try.prog 45 #[up0] gI wI (fun m w v => RV m w (r) v) := by
 unfold f45 at h
 refine fn_of_E Try.func45 rfl (Nat.le_of_ble_eq_true rfl) fun g0 hm hfr => ?_
 have rp0 : RV g0.m wI x0 up0 := hm ▸ rp0
 show E _ 30 none _ _ _ _ _
 refine E_seq (E_region (EL_do .plain rfl (D_box (g := g0) rfl rp0 fun g1 w1 p1 hs q1 => ?_)))
 have hfr := hfr.ext hs
 have rp0 := rp0.ext hs
 refine EL_do .plain rfl (D_allocOc (g := g1) 2002 ((⟨List.toArray [(⟨List.toArray [0, 0, 0, 0], rfl⟩ : Vector Int 4), (⟨List.toArray [0, 0, 0, 0], rfl⟩ : Vector Int 4)], rfl⟩ : Vector (Vector Int 4) 2) : Vector (Vector Int 4) 2) Try.zeroValue76 (fun m w => ⟨_, (rep_vec (flat_chunk (rep_vec (flat_chunk rep_int (flat_chunk rep_int (flat_chunk rep_int (flat_chunk rep_int flat_nil)))) rfl) (flat_chunk (rep_vec (flat_chunk rep_int (flat_chunk rep_int (flat_chunk rep_int (flat_chunk rep_int flat_nil)))) rfl) flat_nil)) rfl), rfl⟩) fun g2 w2 p2 hs b2 cb => ?_)
 have hfr := hfr.stp hs
 have rp0 := rp0.stp hs
 have q1 := q1.stp hs
 clear cb
 refine EL_nil (thn_n (E_seq (E_region ?_)))
 have r3 : RV g2.m w2 (⟨List.toArray [(⟨List.toArray [0, 0, 0, 0], rfl⟩ : Vector Int 4), (⟨List.toArray [0, 0, 0, 0], rfl⟩ : Vector Int 4)], rfl⟩ : Vector (Vector Int 4) 2) (.agg (setCh [[.int .i64 0, .int .i64 0, .int .i64 0, .int .i64 0], [.int .i64 0, .int .i64 0, .int .i64 0, .int .i64 0]] []).flatten.toArray) := RV_build rfl (rep_vec (flat_chunk (rep_vec (flat_chunk rep_int (flat_chunk rep_int (flat_chunk rep_int (flat_chunk rep_int flat_nil)))) rfl) (flat_chunk (rep_vec (flat_chunk rep_int (flat_chunk rep_int (flat_chunk rep_int (flat_chunk rep_int flat_nil)))) rfl) flat_nil)) rfl)
 generalize hv3 : (Value.agg (setCh [[.int .i64 0, .int .i64 0, .int .i64 0, .int .i64 0], [.int .i64 0, .int .i64 0, .int .i64 0, .int .i64 0]] []).flatten.toArray) = v3 at r3
 refine EL_p v3 (hv3 ▸ P_buildA (vs := []) [[.int .i64 0, .int .i64 0, .int .i64 0, .int .i64 0], [.int .i64 0, .int .i64 0, .int .i64 0, .int .i64 0]] Try.underlying76 layA_76 szA_75 rfl (by simp) .nil trivial) rfl ?_
 refine EL_do .plain rfl (D_allocOc (g := g2) 2003 ((⟨List.toArray [(⟨List.toArray [0, 0, 0, 0], rfl⟩ : Vector Int 4), (⟨List.toArray [0, 0, 0, 0], rfl⟩ : Vector Int 4)], rfl⟩ : Vector (Vector Int 4) 2) : Vector (Vector Int 4) 2) Try.zeroValue76 (fun m w => ⟨_, (rep_vec (flat_chunk (rep_vec (flat_chunk rep_int (flat_chunk rep_int (flat_chunk rep_int (flat_chunk rep_int flat_nil)))) rfl) (flat_chunk (rep_vec (flat_chunk rep_int (flat_chunk rep_int (flat_chunk rep_int (flat_chunk rep_int flat_nil)))) rfl) flat_nil)) rfl), rfl⟩) fun g4 w4 p4 hs b4 cb => ?_)
 have hfr := hfr.stp hs
 have rp0 := rp0.stp hs
 have q1 := q1.stp hs
 have b2 := b2.stp hs rfl
 have r3 := r3.stp hs
 clear cb
 refine EL_do .plain rfl (D_storeOc (g := g4) (v := v3) Try.sizeOf76 rfl b4 rfl r3 fun g5 w5 hs b5 cb => ?_)
 clear cb
 have hfr := hfr.stp hs
 have rp0 := rp0.stp hs
 have q1 := q1.stp hs
 have b2 := b2.stp hs rfl
 have r3 := r3.stp hs
 refine EL_nil (thn_n ?_)
 obtain ⟨t5, hx, h⟩ := bsome h
 refine E_join (fun e w => ∃ (g : Gh) , Fr gI wI g w ∧ e 2 = p2 ∧ OB 2002 g w 76 (((⟨List.toArray [(⟨List.toArray [0, 0, 0, 0], rfl⟩ : Vector Int 4), (⟨List.toArray [0, 0, 0, 0], rfl⟩ : Vector Int 4)], rfl⟩ : Vector (Vector Int 4) 2) : Vector (Vector Int 4) 2) : Vector (Vector Int 4) 2) p2 ∧ e 3 = p4 ∧ OB 2003 g w 76 (t5 : Vector (Vector Int 4) 2) p4) (fun Q' hQ => ?_) (fun bB eB hR => ?_)
 ·replace h := hx
  clear hx
  refine E_seq (E_region (EL_at (.int .i64 (0)) rfl rfl ?_))
  refine EL_nil (thn_n (E_block ?_))
  refine E_lp h (fun (s : (Vector (Vector Int 4) 2) × Int) e w => ∃ (g : Gh) , Fr gI wI g w ∧ e 1 = p1 ∧ PT g.m w (x0 : BoxLoom) p1 ∧ e 2 = p2 ∧ OB 2002 g w 76 (((⟨List.toArray [(⟨List.toArray [0, 0, 0, 0], rfl⟩ : Vector Int 4), (⟨List.toArray [0, 0, 0, 0], rfl⟩ : Vector Int 4)], rfl⟩ : Vector (Vector Int 4) 2) : Vector (Vector Int 4) 2) : Vector (Vector Int 4) 2) p2 ∧ e 3 = p4 ∧ OB 2003 g w 76 (s.1 : Vector (Vector Int 4) 2) p4 ∧ e 4 = .int .i64 (s.2)) ⟨g5, hfr, rfl, q1, rfl, b2, rfl, b5, rfl⟩ (fun X94 k94 lA => ?_)
  rintro ⟨z3, o0⟩ iB zB ⟨r8, hfr, u7, i6, v7, c8, g8, i8, k8⟩ h
  refine E_joinC h (fun (s : Unit) e w => ∃ (g : Gh) , Fr gI wI g w ∧ e 1 = p1 ∧ PT g.m w (x0 : BoxLoom) p1 ∧ e 2 = p2 ∧ OB 2002 g w 76 (((⟨List.toArray [(⟨List.toArray [0, 0, 0, 0], rfl⟩ : Vector Int 4), (⟨List.toArray [0, 0, 0, 0], rfl⟩ : Vector Int 4)], rfl⟩ : Vector (Vector Int 4) 2) : Vector (Vector Int 4) 2) : Vector (Vector Int 4) 2) p2 ∧ e 3 = p4 ∧ OB 2003 g w 76 (z3 : Vector (Vector Int 4) 2) p4 ∧ e 4 = .int .i64 (o0)) (fun X99 iA mA h => ?_) ?_
  ·refine E_seq (E_region (EL_mv k8 rfl ?_))
   refine EL_p (fPtr p1 2) (P_fieldAddr at_25_2 u7 (PT.ptr i6)) rfl ?_
   have nA := PT_field (part_BoxLoom_2).1 i6
   refine EL_do .plain rfl (D_load (g := r8) Try.isAgg23 Try.sizeOf23 rfl nA fun jB oA => ?_)
   refine EL_p (.int .i64 (((x0).Shuttles).length : Int)) (P_len Try.underlying23 rfl oA) rfl ?_
   refine EL_p (.bool ((decide (o0 < (((x0).Shuttles).length : Int))))) (P_int rfl rfl rfl) rfl ?_
   refine EL_nil (thn_n ?_)
   rcases csome h with ⟨j6, h⟩ | ⟨j6, h⟩
   ·refine E_ct j6 rfl ?_
    exact E_skip (thn_n (mA () _ _ ⟨r8, hfr, u7, i6, v7, c8, g8, i8, k8⟩ h))
   ·refine E_cf j6 rfl ?_
    refine E_exit ?_
    refine thn_e ?_
    refine thn_e ?_
    refine blk_hit ?_
    obtain rfl := sinj h
    exact hQ _ _ ⟨r8, hfr, v7, c8, g8, i8⟩
  ·rintro _ cB lB ⟨pA, hfr, x5, j1, t8, i3, b7, j3, i5⟩ h
   obtain ⟨z4, hx, h⟩ := bsome h
   refine E_join (fun e w => ∃ (g : Gh) , Fr gI wI g w ∧ e 1 = p1 ∧ PT g.m w (x0 : BoxLoom) p1 ∧ e 2 = p2 ∧ OB 2002 g w 76 (((⟨List.toArray [(⟨List.toArray [0, 0, 0, 0], rfl⟩ : Vector Int 4), (⟨List.toArray [0, 0, 0, 0], rfl⟩ : Vector Int 4)], rfl⟩ : Vector (Vector Int 4) 2) : Vector (Vector Int 4) 2) : Vector (Vector Int 4) 2) p2 ∧ e 3 = p4 ∧ OB 2003 g w 76 (z4 : Vector (Vector Int 4) 2) p4 ∧ e 4 = .int .i64 (o0)) (fun Q' hQ => ?_) (fun dB mB hR => ?_)
   ·replace h := hx
    clear hx
    refine E_block ?_
    have d7 := PT_field (part_BoxLoom_2).1 j1
    refine L_load (x := .tmp 13) Try.isAgg23 Try.sizeOf23 d7 fun g7 v6 u9 => ?_
    obtain ⟨u3, l8, h⟩ := bsome h
    have x6 := PT_idx v6 l8
    have i7 := PT_field (part_BoxShuttle_1).1 x6
    refine L_load (x := .tmp 17) Try.isAgg3 Try.sizeOf3 i7 fun nB qA y9 => ?_
    obtain rfl := RV_int.1 qA
    have j7 := PT_field (part_BoxLoom_2).1 j1
    refine L_load (x := .tmp 19) Try.isAgg23 Try.sizeOf23 j7 fun m7 y6 z9 => ?_
    obtain ⟨l5, m8, h⟩ := bsome h
    have a7 := PT_idx y6 m8
    have o7 := PT_field (part_BoxShuttle_2).1 a7
    refine L_load (x := .tmp 23) Try.isAgg3 Try.sizeOf3 o7 fun oB rA bA => ?_
    obtain rfl := RV_int.1 rA
    obtain ⟨q8, n8, h⟩ := bsome h
    obtain ⟨hi155, he155⟩ := vat_idx n8
    obtain ⟨jA, o8, h⟩ := bsome h
    obtain ⟨hi157, he157⟩ := vat_idx o8
    refine E_drawL (g := pA) (n := 16) [] [0, 1, 2, 3, 4, 5, 6, 7, 8, 9, 10, 11, 12, 13, 14, 15] rfl mixed (by kernel_rfl) trivial ?_
    refine L_p (fPtr p1 2) rfl rfl (P_fieldAddr at_25_2 x5 (PT.ptr j1)) ?_
    refine L_ld (c := g7) rfl rfl .plain (fun _ _ h => h.ch) u9 rfl ?_
    refine L_p (.int .i64 (o0)) rfl rfl (P_move i5) ?_
    refine L_p (ePtr g7 o0 5) rfl rfl (P_indexAddr (α := BoxShuttle) Try.underlying23 Try.sizeOf87 rfl v6 rfl l8) ?_
    refine L_p (fPtr (ePtr g7 o0 5) 1) rfl rfl (P_fieldAddr at_87_1 rfl (PT.ptr x6)) ?_
    refine L_ld (c := .int .i64 ((u3).Side)) rfl rfl .plain (fun _ _ h => h.ch) y9 rfl ?_
    refine L_p (fPtr p1 2) rfl rfl (P_fieldAddr at_25_2 x5 (PT.ptr j1)) ?_
    refine L_ld (c := m7) rfl rfl .plain (fun _ _ h => h.ch) z9 rfl ?_
    refine L_p (.int .i64 (o0)) rfl rfl (P_move i5) ?_
    refine L_p (ePtr m7 o0 5) rfl rfl (P_indexAddr (α := BoxShuttle) Try.underlying23 Try.sizeOf87 rfl y6 rfl m8) ?_
    refine L_p (fPtr (ePtr m7 o0 5) 2) rfl rfl (P_fieldAddr at_87_2 rfl (PT.ptr a7)) ?_
    refine L_ld (c := .int .i64 ((l5).Box)) rfl rfl .plain (fun _ _ h => h.ch) bA rfl ?_
    refine L_p (.int .i64 (o0)) rfl rfl (P_move i5) ?_
    refine L_p (.int .i64 ((w64 (o0 + (1 : Int))))) rfl rfl (P_int rfl rfl rfl) ?_
    refine L_p (fPtr p4 (((u3).Side : Int).toNat * 4)) rfl rfl (P_indexAddrA (α := Vector Int 4) Try.underlying76 Try.sizeOf75 b7 (OB.ptr j3) rfl n8) ?_
    refine L_p (fPtr p4 ((((u3).Side : Int).toNat * 4) + ((l5).Box : Int).toNat * 1)) rfl rfl (P_indexAddrA2 (α := Int) (o1 := (((u3).Side : Int).toNat * 4)) rfl Try.underlying75 Try.sizeOf3 rfl (OB.ptr j3) rfl o8) ?_
    refine L_nl fun uA tB hs => ?_
    have hfr := hfr.ext hs
    have j1 := j1.ext hs
    have i3 := i3.ext hs
    have j3 := j3.ext hs
    have d7 := d7.ext hs
    have v6 := v6.ext hs
    have x6 := x6.ext hs
    have i7 := i7.ext hs
    have j7 := j7.ext hs
    have y6 := y6.ext hs
    have a7 := a7.ext hs
    have o7 := o7.ext hs
    clear hs
    refine EL_do .plain rfl (D_storeFc (g := uA) (SubS.at_ (SubS.dynC hi155 (SubS.dyn hi157) rfl) (by first | rfl | exact Nat.add_assoc _ _ _ | simp only [Nat.add_assoc, Nat.zero_add] | omega)) Try.sizeOf3 rfl j3 rfl (RV_int.2 rfl) fun xA vB hs b179 rst hos => ?_)
    clear rst hos
    have hfr := hfr.stp hs
    have j1 := j1.stp hs
    have i3 := i3.stp hs rfl
    refine EL_nil (blk_n ?_)
    obtain rfl := sinj h
    exact hQ _ _ ⟨xA, hfr, x5, j1, t8, i3, b7, b179, i5⟩
   ·clear hx
    obtain ⟨yA, hfr, v8, x8, y8, a9, d9, i9, k9⟩ := hR
    refine E_region (EL_mv k9 rfl ?_)
    refine EL_in (.int .i64 ((w64 (o0 + (1 : Int))))) rfl rfl rfl rfl ?_
    refine EL_at (.int .i64 ((w64 (o0 + (1 : Int))))) rfl rfl ?_
    exact EL_nil (thn_n (lA (z4, (w64 (o0 + (1 : Int)))) _ _ ⟨yA, hfr, v8, x8, y8, a9, d9, i9, rfl⟩ h))
 ·clear hx
  obtain ⟨l9, hfr, c7, n9, o9, t9⟩ := hR
  refine E_seq (E_region (EL_do .plain rfl (D_loadO (g := l9) Try.isAgg76 Try.sizeOf76 o9 t9 fun zA aB => ?_)))
  refine EL_do .plain rfl (D_storeOc (g := l9) (v := zA) Try.sizeOf76 c7 n9 rfl aB fun xB yB hs b183 cb => ?_)
  clear cb
  have hfr := hfr.stp hs
  refine EL_nil (thn_n (E_ret ?_))
  obtain rfl := sinj h
  obtain ⟨ad184, cv184, hp184, gA, cr184⟩ := ob_read Try.isAgg76 Try.sizeOf76 b183
  exact endm_c rfl rfl ((show _ = p2 from c7).trans hp184) gA ⟨_, hfr, cr184⟩
def f48  : Option (BoxLoom) :=
 (f42 ((2 : Int)) ((3 : Int))).bind fun y5 =>
 (f42 ((1 : Int)) ((1 : Int))).bind fun y8 =>
 (f42 ((9 : Int)) ((9 : Int))).bind fun y11 =>
 some ((⟨([(2 : Int), (2 : Int)] : List Int), ([(0 : Int), (0 : Int)] : List Int), ([(⟨(3 : Int), 0, 0, y5⟩ : BoxShuttle), (⟨(5 : Int), 0, (1 : Int), y8⟩ : BoxShuttle), (⟨(7 : Int), (1 : Int), (1 : Int), y11⟩ : BoxShuttle)] : List BoxShuttle)⟩ : BoxLoom))
def f49 (x0 : Int) (x1 : Int) : Option (BoxPick) :=
 some ((⟨x0, x1⟩ : BoxPick))
theorem en49 : Enters Try.prog 49 := enters_of Try.func49 (by kernel_rfl) rfl
theorem wk49 {gI : Gh} {wI : World} {x0 : Int} {x1 : Int}  {r : BoxPick} (h : f49 x0 x1 = some r) : Fn Try.prog 49 #[.int .i64 (x0), .int .i64 (x1)] gI wI (fun m w v => RV m w (r) v) := by
 unfold f49 at h
 refine fn_of_E Try.func49 rfl (Nat.le_of_ble_eq_true rfl) fun g0 hm hfr => ?_
 show E _ 8 none _ _ _ _ _
 refine E_seq (E_region (EL_do .plain rfl (D_allocOc (g := g0) 2004 (⟨0, 0⟩ : BoxPick) Try.zeroValue83 (fun m w => ⟨_, (rep_two rep_int rep_int), rfl⟩) fun g1 w1 p1 hs b1 cb => ?_)))
 have hfr := hfr.stp hs
 clear cb
 refine EL_nil (thn_n (E_seq (E_region (EL_mw (.int .i64 (x0)) rfl rfl ?_))))
 refine EL_mw (.int .i64 (x1)) rfl rfl ?_
 have r2 : RV g1.m w1 (⟨x0, x1⟩ : BoxPick) (.agg (setCh [[.int .i64 0], [.int .i64 0]] [(0, .int .i64 (x0)), (1, .int .i64 (x1))]).flatten.toArray) := RV_build rfl (rep_pair (rfl) (rep_last (rfl)))
 generalize hv2 : (Value.agg (setCh [[.int .i64 0], [.int .i64 0]] [(0, .int .i64 (x0)), (1, .int .i64 (x1))]).flatten.toArray) = v2 at r2
 refine EL_p v2 (hv2 ▸ P_build (vs := [(0, .int .i64 (x0)), (1, .int .i64 (x1))]) [[.int .i64 0], [.int .i64 0]] lay_83 rfl rfl (.cons rfl (.cons rfl .nil)) ⟨⟨_, rfl, rfl⟩, ⟨⟨_, rfl, rfl⟩, trivial⟩⟩) rfl ?_
 refine EL_do .plain rfl (D_storeOc (g := g1) (v := v2) Try.sizeOf83 rfl b1 rfl r2 fun g3 w3 hs b3 cb => ?_)
 clear cb
 have hfr := hfr.stp hs
 refine EL_nil (thn_n (E_ret ?_))
 obtain rfl := sinj h
 obtain ⟨ad4, cv4, hp4, o0, cr4⟩ := ob_read Try.isAgg83 Try.sizeOf83 b3
 exact endm_c rfl rfl ((show _ = p1 from rfl).trans hp4) o0 ⟨_, hfr, cr4⟩
def f50 (x0 : BoxLoom) : Option (BoxLoom) :=
 (apnd 8 (([] : List Int)) ((x0).Boxes)).bind fun y7 =>
 (apnd 8 (([] : List Int)) ((x0).At)).bind fun j1 =>
 (apnd 40 (([] : List BoxShuttle)) ((x0).Shuttles)).bind fun i3 =>
 some ((⟨y7, j1, i3⟩ : BoxLoom))
theorem en50 : Enters Try.prog 50 := enters_of Try.func50 (by kernel_rfl) rfl
theorem wk50 {gI : Gh} {wI : World} {x0 : BoxLoom} {up0 : Value} (rp0 : RV gI.m wI x0 up0) {r : BoxLoom} (h : f50 x0 = some r) : Fn Try.prog 50 #[up0] gI wI (fun m w v => RV m w (r) v) := by
 unfold f50 at h
 refine fn_of_E Try.func50 rfl (Nat.le_of_ble_eq_true rfl) fun g0 hm hfr => ?_
 have rp0 : RV g0.m wI x0 up0 := hm ▸ rp0
 show E _ 16 none _ _ _ _ _
 refine E_seq (E_region (EL_do .plain rfl (D_box (g := g0) rfl rp0 fun g1 w1 p1 hs q1 => ?_)))
 have hfr := hfr.ext hs
 refine EL_do .plain rfl (D_allocOc (g := g1) 2002 (⟨[], [], []⟩ : BoxLoom) Try.zeroValue25 (fun m w => ⟨_, (rep_two rep_nil (rep_two rep_nil rep_nil)), rfl⟩) fun g2 w2 p2 hs b2 cb => ?_)
 have hfr := hfr.stp hs
 have q1 := q1.stp hs
 have l8 : OSF 2002 60200 0 g2 w2 3 25 ([] : List Int) p2 := cb.osf (by rfl)
 have m8 : OSF 2002 60201 1 g2 w2 3 25 ([] : List Int) p2 := cb.osf (by rfl)
 have n8 : OSF 2002 60202 2 g2 w2 87 25 ([] : List BoxShuttle) p2 := cb.osf (by rfl)
 clear cb
 refine EL_nil (thn_n (E_seq ?_))
 have q4 := PT_field (part_BoxLoom_0).1 q1
 refine L_load (x := .tmp 4) Try.isAgg22 Try.sizeOf22 q4 fun v5 r5 d7 => ?_
 obtain ⟨y7, g7, h⟩ := bsome h
 have q9 := PT_field (part_BoxLoom_1).1 q1
 refine L_load (x := .tmp 8) Try.isAgg22 Try.sizeOf22 q9 fun i7 j7 x6 => ?_
 obtain ⟨j1, y6, h⟩ := bsome h
 have m7 := PT_field (part_BoxLoom_2).1 q1
 refine L_load (x := .tmp 12) Try.isAgg23 Try.sizeOf23 m7 fun o7 u7 a7 => ?_
 obtain ⟨i3, b7, h⟩ := bsome h
 refine E_drawL (g := g2) (n := 12) [(0, (fun v g w => RV g.m w ([] : List Int) v ∧ OS 3003 g w 3 ([] : List Int) v ∧ FullV v)), (3, (fun v g w => RV g.m w y7 v ∧ OS 3003 g w 3 y7 v)), (4, (fun v g w => RV g.m w ([] : List Int) v ∧ OS 3007 g w 3 ([] : List Int) v ∧ FullV v)), (7, (fun v g w => RV g.m w j1 v ∧ OS 3007 g w 3 j1 v)), (8, (fun v g w => RV g.m w ([] : List BoxShuttle) v ∧ OS 3011 g w 87 ([] : List BoxShuttle) v ∧ FullV v)), (11, (fun v g w => RV g.m w i3 v ∧ OS 3011 g w 87 i3 v))] [0, 1, 2, 3, 4, 5, 6, 7, 8, 9, 10, 11] rfl mixed (by kernel_rfl) (⟨fun _ => up_and up_rv (up_and up_os (up_eq _)), fun _ => up_and up_rv up_os, fun _ => up_and up_rv (up_and up_os (up_eq _)), fun _ => up_and up_rv up_os, fun _ => up_and up_rv (up_and up_os (up_eq _)), fun _ => up_and up_rv up_os, trivial⟩) ?_
 refine L_do (φ := fun v g w => RV g.m w ([] : List Int) v ∧ OS 3003 g w 3 ([] : List Int) v ∧ FullV v) rfl rfl .plain (fun g w hd => D_buildSlice (g := g) 3003 (xs := ([] : List Int)) (vs := []) Try.underlying22 Try.sizeOf3 Try.zeroValue3 rfl rfl .nil RVs.nil rfl rfl fun g' w' v hs o r hxt hfl => ⟨g', hxt, r, o, hfl⟩) (fun v3 hv => ?_)
 clear hv
 refine L_p (fPtr p1 0) rfl rfl (P_fieldAddr at_25_0 rfl (PT.ptr q1)) ?_
 refine L_ld (c := v5) rfl rfl .plain (fun _ _ h => h.ch) d7 rfl ?_
 refine L_do (φ := fun v g w => RV g.m w y7 v ∧ OS 3003 g w 3 y7 v) rfl rfl .plain (fun g w hd => D_append (g := g) (i := 3003) Try.underlying22 info_3 rfl rfl (word (A := fun g w => RV g.m w ([] : List Int) v3 ∧ OS 3003 g w 3 ([] : List Int) v3 ∧ FullV v3) 0 rfl rfl (deps_of hd)).2.1 (word (A := fun g w => RV g.m w ([] : List Int) v3 ∧ OS 3003 g w 3 ([] : List Int) v3 ∧ FullV v3) 0 rfl rfl (deps_of hd)).1 rfl (r5.ext hd.1) g7 fun g' w' v hs o r hf => ⟨g', hf (word (A := fun g w => RV g.m w ([] : List Int) v3 ∧ OS 3003 g w 3 ([] : List Int) v3 ∧ FullV v3) 0 rfl rfl (deps_of hd)).2.2, r, o⟩) (fun v6 hv => ?_)
 clear hv
 refine L_do (φ := fun v g w => RV g.m w ([] : List Int) v ∧ OS 3007 g w 3 ([] : List Int) v ∧ FullV v) rfl rfl .plain (fun g w hd => D_buildSlice (g := g) 3007 (xs := ([] : List Int)) (vs := []) Try.underlying22 Try.sizeOf3 Try.zeroValue3 rfl rfl .nil RVs.nil rfl rfl fun g' w' v hs o r hxt hfl => ⟨g', hxt, r, o, hfl⟩) (fun v8 hv => ?_)
 clear hv
 refine L_p (fPtr p1 1) rfl rfl (P_fieldAddr at_25_1 rfl (PT.ptr q1)) ?_
 refine L_ld (c := i7) rfl rfl .plain (fun _ _ h => h.ch) x6 rfl ?_
 refine L_do (φ := fun v g w => RV g.m w j1 v ∧ OS 3007 g w 3 j1 v) rfl rfl .plain (fun g w hd => D_append (g := g) (i := 3007) Try.underlying22 info_3 rfl rfl (word (A := fun g w => RV g.m w ([] : List Int) v8 ∧ OS 3007 g w 3 ([] : List Int) v8 ∧ FullV v8) 4 rfl rfl (deps_of hd)).2.1 (word (A := fun g w => RV g.m w ([] : List Int) v8 ∧ OS 3007 g w 3 ([] : List Int) v8 ∧ FullV v8) 4 rfl rfl (deps_of hd)).1 rfl (j7.ext hd.1) y6 fun g' w' v hs o r hf => ⟨g', hf (word (A := fun g w => RV g.m w ([] : List Int) v8 ∧ OS 3007 g w 3 ([] : List Int) v8 ∧ FullV v8) 4 rfl rfl (deps_of hd)).2.2, r, o⟩) (fun j3 hv => ?_)
 clear hv
 refine L_do (φ := fun v g w => RV g.m w ([] : List BoxShuttle) v ∧ OS 3011 g w 87 ([] : List BoxShuttle) v ∧ FullV v) rfl rfl .plain (fun g w hd => D_buildSlice (g := g) 3011 (xs := ([] : List BoxShuttle)) (vs := []) Try.underlying23 Try.sizeOf87 Try.zeroValue87 rfl rfl .nil RVs.nil rfl rfl fun g' w' v hs o r hxt hfl => ⟨g', hxt, r, o, hfl⟩) (fun o0 hv => ?_)
 clear hv
 refine L_p (fPtr p1 2) rfl rfl (P_fieldAddr at_25_2 rfl (PT.ptr q1)) ?_
 refine L_ld (c := o7) rfl rfl .plain (fun _ _ h => h.ch) a7 rfl ?_
 refine L_do (φ := fun v g w => RV g.m w i3 v ∧ OS 3011 g w 87 i3 v) rfl rfl .plain (fun g w hd => D_append (g := g) (i := 3011) Try.underlying23 info_87 rfl rfl (word (A := fun g w => RV g.m w ([] : List BoxShuttle) o0 ∧ OS 3011 g w 87 ([] : List BoxShuttle) o0 ∧ FullV o0) 8 rfl rfl (deps_of hd)).2.1 (word (A := fun g w => RV g.m w ([] : List BoxShuttle) o0 ∧ OS 3011 g w 87 ([] : List BoxShuttle) o0 ∧ FullV o0) 8 rfl rfl (deps_of hd)).1 rfl (u7.ext hd.1) b7 fun g' w' v hs o r hf => ⟨g', hf (word (A := fun g w => RV g.m w ([] : List BoxShuttle) o0 ∧ OS 3011 g w 87 ([] : List BoxShuttle) o0 ∧ FullV o0) 8 rfl rfl (deps_of hd)).2.2, r, o⟩) (fun u3 hv => ?_)
 clear hv
 refine L_nil fun l5 o8 hall => ?_
 have hs := hall.1
 have hfr := hfr.ext hs
 have b2 := b2.ext hs
 have q8 := (word_all (A := fun g w => RV g.m w ([] : List Int) v3 ∧ OS 3003 g w 3 ([] : List Int) v3 ∧ FullV v3) 0 rfl hall).1
 have o22 := (word_all (A := fun g w => RV g.m w ([] : List Int) v3 ∧ OS 3003 g w 3 ([] : List Int) v3 ∧ FullV v3) 0 rfl hall).2.1
 have z4 := (word_all (A := fun g w => RV g.m w y7 v6 ∧ OS 3003 g w 3 y7 v6) 3 rfl hall).1
 have o25 := (word_all (A := fun g w => RV g.m w y7 v6 ∧ OS 3003 g w 3 y7 v6) 3 rfl hall).2
 have r8 := (word_all (A := fun g w => RV g.m w ([] : List Int) v8 ∧ OS 3007 g w 3 ([] : List Int) v8 ∧ FullV v8) 4 rfl hall).1
 have o26 := (word_all (A := fun g w => RV g.m w ([] : List Int) v8 ∧ OS 3007 g w 3 ([] : List Int) v8 ∧ FullV v8) 4 rfl hall).2.1
 have t5 := (word_all (A := fun g w => RV g.m w j1 j3 ∧ OS 3007 g w 3 j1 j3) 7 rfl hall).1
 have o29 := (word_all (A := fun g w => RV g.m w j1 j3 ∧ OS 3007 g w 3 j1 j3) 7 rfl hall).2
 have t8 := (word_all (A := fun g w => RV g.m w ([] : List BoxShuttle) o0 ∧ OS 3011 g w 87 ([] : List BoxShuttle) o0 ∧ FullV o0) 8 rfl hall).1
 have o30 := (word_all (A := fun g w => RV g.m w ([] : List BoxShuttle) o0 ∧ OS 3011 g w 87 ([] : List BoxShuttle) o0 ∧ FullV o0) 8 rfl hall).2.1
 have x5 := (word_all (A := fun g w => RV g.m w i3 u3 ∧ OS 3011 g w 87 i3 u3) 11 rfl hall).1
 have o33 := (word_all (A := fun g w => RV g.m w i3 u3 ∧ OS 3011 g w 87 i3 u3) 11 rfl hall).2
 clear hs hall
 have i6 : RV l5.m _ (⟨y7, j1, i3⟩ : BoxLoom) (.agg (setCh [[.slice none 0 0], [.slice none 0 0], [.slice none 0 0]] [(0, v6), (1, j3), (2, u3)]).flatten.toArray) := RV_build rfl (rep_pair (RV.cells z4) (rep_pair (RV.cells t5) (rep_last (RV.cells x5))))
 generalize i5 : (Value.agg (setCh [[.slice none 0 0], [.slice none 0 0], [.slice none 0 0]] [(0, v6), (1, j3), (2, u3)]).flatten.toArray) = j6 at i6
 refine EL_p j6 (i5 ▸ P_build (vs := [(0, v6), (1, j3), (2, u3)]) [[.slice none 0 0], [.slice none 0 0], [.slice none 0 0]] lay_25 rfl rfl (.cons rfl (.cons rfl (.cons rfl .nil))) ⟨⟨_, rfl, cells_size z4⟩, ⟨⟨_, rfl, cells_size t5⟩, ⟨⟨_, rfl, cells_size x5⟩, trivial⟩⟩⟩) rfl ?_
 refine EL_do .plain rfl (D_storeOc (g := l5) (v := j6) Try.sizeOf25 rfl b2 rfl i6 fun v7 c8 hs b35 cb => ?_)
 obtain ⟨g8, i8, z3, _, _⟩ := RV_list z4
 have k8 : OSF 2002 3003 0 v7 c8 3 25 (y7 : List Int) p2 := cb.osfv (by rw [← i5, z3]; rfl) (o25.stp hs rfl)
 clear cb
 have hfr := hfr.stp hs
 refine EL_nil (thn_n (E_ret ?_))
 obtain rfl := sinj h
 obtain ⟨ad36, cv36, hp36, c7, cr36⟩ := ob_read Try.isAgg25 Try.sizeOf25 b35
 exact endm_c rfl rfl ((show _ = p2 from rfl).trans hp36) c7 ⟨_, hfr, cr36⟩
def f53 (x0 : List Int) : Option ((List (List Int))) :=
 Option.bind (α := (List (List Int))) (
  lp (σ := (List (List Int)) × Int) (fun k19 (i5, o0) =>
   bif (decide (o0 < ((x0).length : Int))) then
    Option.bind (α := (List (List Int))) (
     (idx x0 o0).bind fun z4 =>
     (apnd 24 i5 (([([z4] : List Int)] : List (List Int)))).bind fun c8 =>
     some (c8)
     ) fun u3 =>
    k19 (u3, (w64 (o0 + (1 : Int))))
   else
    some (i5)
   ) big ([], (0 : Int))
  ) fun z3 =>
 some (z3)
def f54 (x0 : BoxBoxLoom) (x1 : Int → BoxShuttle → Option Int) : Option (BoxRace) :=
 Option.bind (α := BoxRace) (
  lp (σ := BoxRace × Int) (fun uA (t5, o0) =>
   bif (decide (o0 < ((((x0).BoxLoom).Shuttles).length : Int))) then
    Option.bind (α := BoxRace) (
     (idx (((x0).BoxLoom).Shuttles) o0).bind fun u3 =>
     (x1 o0 u3).bind fun a7 =>
     (idx ((t5).boxes).toList (u3).Side).bind fun o8 =>
     (idx (o8).toList (u3).Box).bind fun y158 =>
     some ({ t5 with boxes := (vmod ((t5).boxes) ((u3).Side) (fun b => (vset b ((u3).Box) a7))) })
     ) fun x5 =>
    uA (x5, (w64 (o0 + (1 : Int))))
   else
    some (t5)
   ) big ((⟨(⟨List.toArray [(⟨List.toArray [0, 0, 0, 0], rfl⟩ : Vector Int 4), (⟨List.toArray [0, 0, 0, 0], rfl⟩ : Vector Int 4)], rfl⟩ : Vector (Vector Int 4) 2), ⟨0, 0⟩⟩ : BoxRace), (0 : Int))
  ) fun y6 =>
 (idx (((x0).BoxLoom).At) (0 : Int)).bind fun z3 =>
 (idx (((x0).BoxLoom).At) (1 : Int)).bind fun z4 =>
 some ({ y6 with at_ := (⟨z3, z4⟩ : BoxPick) })
theorem en54 : Enters Try.prog 54 := enters_of Try.func54 (by kernel_rfl) rfl
theorem wk54 {gI : Gh} {wI : World} {x0 : BoxBoxLoom} {x1 : Int → BoxShuttle → Option Int} {up0 : Value} (rp0 : RV gI.m wI x0 up0) {up1 : Value} (rp1 : FnV2 Try.prog x1 up1 gI wI) {r : BoxRace} (h : f54 x0 x1 = some r) : Fn Try.prog 54 #[up0, up1] gI wI (fun m w v => RV m w (r) v) := by
 unfold f54 at h
 refine fn_of_E Try.func54 rfl (Nat.le_of_ble_eq_true rfl) fun g0 hm hfr => ?_
 have rp0 : RV g0.m wI x0 up0 := hm ▸ rp0
 obtain ⟨ff1, fa1, fc1, rfl, fen1, fcl1⟩ := rp1
 show E _ 41 none _ _ _ _ _
 refine E_seq (E_region (EL_do .plain rfl (D_box (g := g0) rfl rp0 fun g1 w1 p1 hs q1 => ?_)))
 have hfr := hfr.ext hs
 have rp0 := rp0.ext hs
 refine EL_do .plain rfl (D_allocOc (g := g1) 2004 (⟨(⟨List.toArray [(⟨List.toArray [0, 0, 0, 0], rfl⟩ : Vector Int 4), (⟨List.toArray [0, 0, 0, 0], rfl⟩ : Vector Int 4)], rfl⟩ : Vector (Vector Int 4) 2), ⟨0, 0⟩⟩ : BoxRace) Try.zeroValue108 (fun m w => ⟨_, (rep_two (rep_vec (flat_chunk (rep_vec (flat_chunk rep_int (flat_chunk rep_int (flat_chunk rep_int (flat_chunk rep_int flat_nil)))) rfl) (flat_chunk (rep_vec (flat_chunk rep_int (flat_chunk rep_int (flat_chunk rep_int (flat_chunk rep_int flat_nil)))) rfl) flat_nil)) rfl) (rep_two rep_int rep_int)), rfl⟩) fun g2 w2 p2 hs b2 cb => ?_)
 have hfr := hfr.stp hs
 have rp0 := rp0.stp hs
 have q1 := q1.stp hs
 clear cb
 refine EL_nil (thn_n ?_)
 obtain ⟨y6, hx, h⟩ := bsome h
 refine E_join (fun e w => ∃ (g : Gh) , Fr gI wI g w ∧ e 2 = p1 ∧ PT g.m w (x0 : BoxBoxLoom) p1 ∧ e 4 = p2 ∧ OB 2004 g w 108 (y6 : BoxRace) p2) (fun Q' hQ => ?_) (fun iC zA hR => ?_)
 ·replace h := hx
  clear hx
  refine E_seq (E_region (EL_p (fPtr p1 0) (P_fieldAddr at_102_0 rfl (PT.ptr q1)) rfl ?_))
  have xA := PT_field (part_BoxBoxLoom_0).1 q1
  refine EL_p (fPtr (fPtr p1 0) 2) (P_fieldAddr at_25_2 rfl (PT.ptr xA)) rfl ?_
  have eC := PT_field (part_BoxLoom_2).1 xA
  refine EL_do .plain rfl (D_load (g := g2) Try.isAgg23 Try.sizeOf23 rfl eC fun g7 yA => ?_)
  refine EL_p (.int .i64 ((((x0).BoxLoom).Shuttles).length : Int)) (P_len Try.underlying23 rfl yA) rfl ?_
  refine EL_mw (.int .i64 (0)) rfl rfl ?_
  refine EL_nil (thn_n (E_block ?_))
  refine E_lp h (fun (s : BoxRace × Int) e w => ∃ (g : Gh) , Fr gI wI g w ∧ e 1 = (.func (.func ff1) fa1 fc1) ∧ e 2 = p1 ∧ PT g.m w (x0 : BoxBoxLoom) p1 ∧ e 4 = p2 ∧ OB 2004 g w 108 (s.1 : BoxRace) p2 ∧ e 9 = g7 ∧ RV g.m w (((x0).BoxLoom).Shuttles : List BoxShuttle) g7 ∧ e 10 = .int .i64 (((((x0).BoxLoom).Shuttles).length : Int)) ∧ e 11 = .int .i64 (s.2)) ⟨g2, hfr, rfl, rfl, q1, rfl, b2, rfl, yA, rfl, rfl⟩ (fun X98 uA aB => ?_)
  rintro ⟨t5, o0⟩ kC iD ⟨q8, hfr, o7, u7, j3, b7, j1, v7, i3, i7, i6⟩ h
  refine E_seq (E_region (EL_p (.bool ((decide (o0 < ((((x0).BoxLoom).Shuttles).length : Int))))) (P_int i6 i7 rfl) rfl ?_))
  refine EL_nil (thn_n (E_seq ?_))
  rcases csome h with ⟨c7, h⟩ | ⟨c7, h⟩
  ·refine E_ct c7 rfl ?_
   refine E_skip (thn_n ?_)
   obtain ⟨x5, hx, h⟩ := bsome h
   refine E_join (fun e w => ∃ (g : Gh) , Fr gI wI g w ∧ e 1 = (.func (.func ff1) fa1 fc1) ∧ e 2 = p1 ∧ PT g.m w (x0 : BoxBoxLoom) p1 ∧ e 4 = p2 ∧ OB 2004 g w 108 (x5 : BoxRace) p2 ∧ e 9 = g7 ∧ RV g.m w (((x0).BoxLoom).Shuttles : List BoxShuttle) g7 ∧ e 10 = .int .i64 (((((x0).BoxLoom).Shuttles).length : Int)) ∧ e 11 = .int .i64 (o0)) (fun Q' hQ => ?_) (fun jC lC hR => ?_)
   ·replace h := hx
    clear hx
    refine E_block ?_
    refine E_seq (E_region (EL_mv i6 rfl ?_))
    obtain ⟨u3, c8, h⟩ := bsome h
    refine EL_p (ePtr g7 o0 5) (P_indexAddr (α := BoxShuttle) Try.underlying23 Try.sizeOf87 v7 i3 i6 c8) rfl ?_
    have i5 := PT_idx i3 c8
    refine EL_do .plain rfl (D_load (g := q8) Try.isAgg87 Try.sizeOf87 rfl i5 fun bB l5 => ?_)
    refine EL_do .plain rfl (D_allocOc (g := q8) 2006 (⟨0, 0, 0, ⟨0, 0⟩⟩ : BoxShuttle) Try.zeroValue87 (fun m w => ⟨_, (rep_two rep_int (rep_two rep_int (rep_two rep_int (rep_two rep_int rep_int)))), rfl⟩) fun cB mC r8 hs b146 cb => ?_)
    have hfr := hfr.stp hs
    have j3 := j3.stp hs
    have j1 := j1.stp hs rfl
    have i3 := i3.stp hs
    have i5 := i5.stp hs
    have l5 := l5.stp hs
    clear cb
    refine EL_at (.int .i64 (o0)) rfl rfl ?_
    refine EL_do .plain rfl (D_storeOc (g := cB) (v := bB) Try.sizeOf87 rfl b146 rfl l5 fun dB qC hs b147 cb => ?_)
    clear cb
    have hfr := hfr.stp hs
    have j3 := j3.stp hs
    have j1 := j1.stp hs rfl
    have i3 := i3.stp hs
    have i5 := i5.stp hs
    have l5 := l5.stp hs
    refine EL_nil (thn_n (L_loadO (x := .tmp 16) part_BoxShuttle_1.1 Try.isAgg3 Try.sizeOf3 b147 fun rC eB gA => ?_))
    obtain rfl := RV_int.1 eB
    refine L_loadO (x := .tmp 18) part_BoxShuttle_2.1 Try.isAgg3 Try.sizeOf3 b147 fun tC iB iA => ?_
    obtain rfl := RV_int.1 iB
    refine L_loadO0 (x := .tmp 6) Try.isAgg87 Try.sizeOf87 b147 fun t8 m7 jA => ?_
    obtain ⟨a7, lA, h⟩ := bsome h
    obtain ⟨o8, g8, h⟩ := bsome h
    obtain ⟨hi157, he157⟩ := vat_idx g8
    obtain ⟨y158, i8, h⟩ := bsome h
    obtain ⟨hi159, he159⟩ := vat_idx i8
    refine E_drawL (g := dB) (n := 11) [(7, (fun v g w => v = .int .i64 (a7)))] [0, 1, 2, 3, 4, 5, 6, 7, 8, 9, 10] rfl mixed (by kernel_rfl) (⟨fun _ => up_eq _, trivial⟩) ?_
    refine L_p (fPtr r8 1) rfl rfl (P_fieldAddr at_87_1 rfl (OB.ptr b147)) ?_
    refine L_ld (c := .int .i64 ((u3).Side)) rfl rfl .plain (fun _ _ h => ⟨h.ch, fun b hb _ => h.below.block b hb⟩) gA rfl ?_
    refine L_p (fPtr r8 2) rfl rfl (P_fieldAddr at_87_2 rfl (OB.ptr b147)) ?_
    refine L_ld (c := .int .i64 ((u3).Box)) rfl rfl .plain (fun _ _ h => ⟨h.ch, fun b hb _ => h.below.block b hb⟩) iA rfl ?_
    refine L_p ((.func (.func ff1) fa1 fc1)) rfl rfl (P_move o7) ?_
    refine L_p (.int .i64 (o0)) rfl rfl (P_move rfl) ?_
    refine L_ld (c := t8) rfl rfl .plain (fun _ _ h => ⟨h.ch, fun b hb _ => h.below.block b hb⟩) jA rfl ?_
    refine L_do (φ := fun v g w => v = .int .i64 (a7)) rfl rfl .plain (fun g w hd => D_callv (g := g) (vs := [.int .i64 (o0), t8]) rfl fen1 (.cons rfl (.cons rfl .nil)) (fcl1 _ _ (hfr.ext hd.1).ch _ _ _ _ _  (RV_int.2 rfl) (m7.ext hd.1) lA) fun g' w' v hs hr => ⟨g', hs, RV_int.1 hr⟩) (fun uC hv => ?_)
    obtain ⟨_, _, _, rfl⟩ := hv
    refine L_p (fPtr p2 0) rfl rfl (P_fieldAddr at_108_0 b7 (OB.ptr j1)) ?_
    refine L_p (fPtr p2 (0 + ((u3).Side : Int).toNat * 4)) rfl rfl (P_indexAddrA2 (α := Vector Int 4) (o1 := 0) rfl Try.underlying76 Try.sizeOf75 rfl (OB.ptr j1) rfl g8) ?_
    refine L_p (fPtr p2 ((0 + ((u3).Side : Int).toNat * 4) + ((u3).Box : Int).toNat * 1)) rfl rfl (P_indexAddrA2 (α := Int) (o1 := (0 + ((u3).Side : Int).toNat * 4)) rfl Try.underlying75 Try.sizeOf3 rfl (OB.ptr j1) rfl i8) ?_
    refine L_nl fun jB vC hs => ?_
    have hfr := hfr.ext hs
    have j3 := j3.ext hs
    have j1 := j1.ext hs
    have i3 := i3.ext hs
    have i5 := i5.ext hs
    have l5 := l5.ext hs
    have b147 := b147.ext hs
    have m7 := m7.ext hs
    clear hs
    refine EL_do .plain rfl (D_storeFc (g := jB) (SubS.at_ (SubS.comp part_BoxRace_0 (SubS.dynC hi157 (SubS.dyn hi159) rfl) rfl) (by first | rfl | exact Nat.add_assoc _ _ _ | simp only [Nat.add_assoc, Nat.zero_add] | omega)) Try.sizeOf3 rfl j1 rfl (RV_int.2 rfl) fun lB xC hs b184 rst hos => ?_)
    clear rst hos
    have hfr := hfr.stp hs
    have j3 := j3.stp hs
    have i3 := i3.stp hs
    refine EL_nil (blk_n ?_)
    obtain rfl := sinj h
    exact hQ _ _ ⟨lB, hfr, o7, u7, j3, b7, b184, v7, i3, i7, i6⟩
   ·clear hx
    obtain ⟨mB, hfr, v8, x8, y8, a9, d9, i9, k9, m8, n8⟩ := hR
    refine E_region (EL_in (.int .i64 ((w64 (o0 + (1 : Int))))) n8 rfl rfl rfl ?_)
    refine EL_mw (.int .i64 ((w64 (o0 + (1 : Int))))) rfl rfl ?_
    exact EL_nil (thn_n (aB (x5, (w64 (o0 + (1 : Int)))) _ _ ⟨mB, hfr, v8, x8, y8, a9, d9, i9, k9, m8, rfl⟩ h))
  ·refine E_cf c7 rfl ?_
   refine E_exit ?_
   refine thn_e ?_
   refine thn_e ?_
   refine blk_hit ?_
   obtain rfl := sinj h
   exact hQ _ _ ⟨q8, hfr, u7, j3, b7, j1⟩
 ·clear hx
  obtain ⟨l9, hfr, j7, j6, v6, x6⟩ := hR
  refine E_seq ?_
  have n9 := PT_field (part_BoxBoxLoom_0).1 j6
  have nB := PT_field (part_BoxLoom_1).1 n9
  refine L_load (x := .tmp 29) Try.isAgg22 Try.sizeOf22 nB fun o9 t9 mA => ?_
  obtain ⟨z3, k8, h⟩ := bsome h
  have oB := PT_idx t9 k8
  refine L_load (x := .tmp 31) Try.isAgg3 Try.sizeOf3 oB fun yC tB nA => ?_
  obtain rfl := RV_int.1 tB
  have u9 := PT_field (part_BoxBoxLoom_0).1 j6
  have vB := PT_field (part_BoxLoom_1).1 u9
  refine L_load (x := .tmp 34) Try.isAgg22 Try.sizeOf22 vB fun y9 z9 oA => ?_
  obtain ⟨z4, l8, h⟩ := bsome h
  have xB := PT_idx z9 l8
  refine L_load (x := .tmp 36) Try.isAgg3 Try.sizeOf3 xB fun aD yB pA => ?_
  obtain rfl := RV_int.1 yB
  have d7 : RV l9.m zA (⟨z3, z4⟩ : BoxPick) (.agg (setCh [[.int .i64 0], [.int .i64 0]] [(0, .int .i64 (z3)), (1, .int .i64 (z4))]).flatten.toArray) := RV_build rfl (rep_pair (rfl) (rep_last (rfl)))
  generalize qA : (Value.agg (setCh [[.int .i64 0], [.int .i64 0]] [(0, .int .i64 (z3)), (1, .int .i64 (z4))]).flatten.toArray) = zB at d7
  refine E_drawL (g := l9) (n := 12) [] [0, 1, 2, 3, 4, 5, 6, 7, 8, 9, 10, 11] rfl mixed (by kernel_rfl) trivial ?_
  refine L_p (fPtr p1 0) rfl rfl (P_fieldAddr at_102_0 j7 (PT.ptr j6)) ?_
  refine L_p (fPtr (fPtr p1 0) 1) rfl rfl (P_fieldAddr at_25_1 rfl (PT.ptr n9)) ?_
  refine L_ld (c := o9) rfl rfl .plain (fun _ _ h => h.ch) mA rfl ?_
  refine L_p (ePtr o9 (0 : Int) 1) rfl rfl (P_indexAddr (α := Int) Try.underlying22 Try.sizeOf3 rfl t9 rfl k8) ?_
  refine L_ld (c := .int .i64 (z3)) rfl rfl .plain (fun _ _ h => h.ch) nA rfl ?_
  refine L_p (fPtr p1 0) rfl rfl (P_fieldAddr at_102_0 j7 (PT.ptr j6)) ?_
  refine L_p (fPtr (fPtr p1 0) 1) rfl rfl (P_fieldAddr at_25_1 rfl (PT.ptr u9)) ?_
  refine L_ld (c := y9) rfl rfl .plain (fun _ _ h => h.ch) oA rfl ?_
  refine L_p (ePtr y9 (1 : Int) 1) rfl rfl (P_indexAddr (α := Int) Try.underlying22 Try.sizeOf3 rfl z9 rfl l8) ?_
  refine L_ld (c := .int .i64 (z4)) rfl rfl .plain (fun _ _ h => h.ch) pA rfl ?_
  refine L_p zB rfl rfl (qA ▸ P_build (vs := [(0, .int .i64 (z3)), (1, .int .i64 (z4))]) [[.int .i64 0], [.int .i64 0]] lay_83 rfl rfl (.cons rfl (.cons rfl .nil)) ⟨⟨_, rfl, rfl⟩, ⟨⟨_, rfl, rfl⟩, trivial⟩⟩) ?_
  refine L_p (fPtr p2 8) rfl rfl (P_fieldAddr at_108_1 v6 (OB.ptr x6)) ?_
  refine L_nl fun aC bD hs => ?_
  have hfr := hfr.ext hs
  have x6 := x6.ext hs
  have d7 := d7.ext hs
  clear hs
  refine EL_do .plain rfl (D_storeFc (g := aC) part_BoxRace_1 Try.sizeOf83 rfl x6 rfl d7 fun bA cD hs b216 rst hos => ?_)
  clear rst hos
  have hfr := hfr.stp hs
  refine EL_nil (thn_n (E_seq (E_region (EL_do .plain rfl (D_loadO (g := bA) Try.isAgg108 Try.sizeOf108 v6 b216 fun cC dC => ?_)))))
  refine EL_do .plain rfl (D_storeOc (g := bA) (v := cC) Try.sizeOf108 v6 b216 rfl dC fun eD gD hs b218 cb => ?_)
  clear cb
  have hfr := hfr.stp hs
  refine EL_nil (thn_n (E_ret ?_))
  obtain rfl := sinj h
  obtain ⟨ad219, cv219, hp219, rA, cr219⟩ := ob_read Try.isAgg108 Try.sizeOf108 b218
  exact endm_c rfl rfl ((show _ = p2 from v6).trans hp219) rA ⟨_, hfr, cr219⟩
def f55 (x0 : Int) (x1 : BoxShuttle) : Option (Int) :=
 some ((w64 ((x1).Colour + (1 : Int))))
def f62 (x0 : List Int) : Option (Bool) :=
 some ((decide (((x0).length : Int) > (3 : Int))))
def f65 (x0 : BoxPoint) (x1 : List (List Int)) : Option (BoxPoint) :=
 Option.bind (α := BoxPoint) (
  lp (σ := BoxPoint) (fun u7 o0 =>
   jn (σ := Unit) (fun _ =>
    u7 ({ { o0 with group := (w64 ((o0).group + (1 : Int))) } with done := (0 : Int) })
    ) fun v7 =>
   Option.bind (α := Bool) (
    bif (decide ((o0).group < ((x1).length : Int))) then
     (idx x1 (o0).group).bind fun j7 =>
     (shl64 (1 : Int) ((j7).length : Int)).bind fun j6 =>
     some (((o0).done == (w64 (j6 - (1 : Int)))))
    else
     some (false)
    ) fun u3 =>
   bif u3 then
    v7 ()
   else
    some (o0)
   ) big (x0)
  ) fun v6 =>
 some (v6)
def f71 (x0 : Span) : Option (Int) :=
 some ((x0).Low)
def f72 (x0 : Span) : Option (Int) :=
 some ((x0).High)
def f75 (x0 : Int) (x1 : BoxShuttle) : Option (Int) :=
 some ((w64 (x0 + (1 : Int))))
theorem en75 : Enters Try.prog 75 := enters_of Try.func75 (by kernel_rfl) rfl
theorem wk75 {gI : Gh} {wI : World} {x0 : Int} {x1 : BoxShuttle} {up1 : Value} (rp1 : RV gI.m wI x1 up1) {r : Int} (h : f75 x0 x1 = some r) : Fn Try.prog 75 #[.int .i64 (x0), up1] gI wI (fun _ _ v => v = .int .i64 (r)) := by
 unfold f75 at h
 refine fn_of_E Try.func75 rfl (Nat.le_of_ble_eq_true rfl) fun g0 hm hfr => ?_
 have rp1 : RV g0.m wI x1 up1 := hm ▸ rp1
 show E _ 7 none _ _ _ _ _
 refine E_seq (E_region (EL_do .plain rfl (D_box (g := g0) rfl rp1 fun g1 w1 p1 hs q1 => ?_)))
 have hfr := hfr.ext hs
 refine EL_at (.int .i64 (0)) rfl rfl ?_
 refine EL_nil (thn_n (E_seq (E_region (EL_mw (.int .i64 (x0)) rfl rfl ?_))))
 refine EL_in (.int .i64 ((w64 (x0 + (1 : Int))))) rfl rfl rfl rfl ?_
 refine EL_at (.int .i64 ((w64 (x0 + (1 : Int))))) rfl rfl ?_
 refine EL_nil (thn_n (E_ret ?_))
 obtain rfl := sinj h
 exact end1 rfl rfl (show _ = .int .i64 ((w64 (x0 + (1 : Int)))) from rfl) ⟨_, hfr, rfl⟩
def f88 (x0 : BoxPoint) (x1 : List (List Int)) (x2 : BoxStep) : Option (BoxPoint × Bool) :=
 jn (σ := BoxPoint × BoxPoint) (fun (l8, o9) =>
  some (l8, false)
  ) fun t9 =>
 (idx x1 (x0).group).bind fun z3 =>
 lp (σ := BoxPoint × BoxPoint × Int) (fun u9 (j1, l5, o0) =>
  bif (decide (o0 < ((z3).length : Int))) then
   jn (σ := BoxPoint × BoxPoint) (fun (i7, j7) =>
    u9 (i7, j7, (w64 (o0 + (1 : Int))))
    ) fun y9 =>
   (idx z3 o0).bind fun i6 =>
   Option.bind (α := Bool) (
    bif (i6 == (x2).colour) then
     (shr64 (j1).done o0).bind fun y180 =>
     some (((bit64 .and y180 (1 : Int)) == (0 : Int)))
    else
     some (false)
    ) fun t5 =>
   bif t5 then
    (shl64 (1 : Int) o0).bind fun g8 =>
    (f65 ({ { j1 with done := (bit64 .or (j1).done g8) } with race := (x2).next }) x1).bind fun z9 =>
    some (z9, true)
   else
    y9 (j1, l5)
  else
   t9 (j1, l5)
  ) big (x0, (⟨0, 0, ⟨(⟨List.toArray [(⟨List.toArray [0, 0, 0, 0], rfl⟩ : Vector Int 4), (⟨List.toArray [0, 0, 0, 0], rfl⟩ : Vector Int 4)], rfl⟩ : Vector (Vector Int 4) 2), ⟨0, 0⟩⟩⟩ : BoxPoint), (0 : Int))
def f90 (x0 : List (List Int)) (x1 : (List Int) → Option Bool) : Option (Int) :=
 jn (σ := Unit) (fun _ =>
  some ((-1 : Int))
  ) fun k18 =>
 lp (σ := Int) (fun k19 o0 =>
  bif (decide (o0 < ((x0).length : Int))) then
   jn (σ := Unit) (fun _ =>
    k19 ((w64 (o0 + (1 : Int))))
    ) fun k28 =>
   (idx x0 o0).bind fun y6 =>
   (x1 y6).bind fun a7 =>
   bif a7 then
    some (o0)
   else
    k28 ()
  else
   k18 ()
  ) big ((0 : Int))
def f91 (x1 : Int) : Option ((List Int)) :=
 Option.bind (α := Unit) (
  bif (decide (x1 < (0 : Int))) then
   none
  else
   some ()
  ) fun (_ : Unit) =>
 Option.bind (α := (List Int)) (
  bif (decide ((w64 (x1 - (w64 (((0 : Nat) : Int) - ((([] : List Int)).length : Int))))) > (0 : Int))) then
   (grwz 8 ((w64 (x1 - (w64 (((0 : Nat) : Int) - ((([] : List Int)).length : Int))))))).bind fun _ =>
   some (([] : List Int))
  else
   some (([] : List Int))
  ) fun i3 =>
 some (i3)
end Go.Proofs.Ytmpjooneiaiffaa
