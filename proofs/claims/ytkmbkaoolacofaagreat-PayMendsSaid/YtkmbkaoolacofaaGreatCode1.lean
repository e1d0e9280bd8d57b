import Derived.Test.YtkmbkaoolacofaaGreatTypes
import Derived.Test.YtkmbkaoolacofaaGreatKn
import Derived.Test.YtkmbkaoolacofaaGreatMap
import Derived.Test.YtkmbkaoolacofaaGreatProg
import Derived.Test.YtkmbkaoolacofaaGreatOwm
set_option maxRecDepth 8000
set_option maxHeartbeats 4000000
namespace Go.Proofs.YtkmbkaoolacofaaGreat
open Go.RowKit
theorem info_3 : (Tryz.prog.info? 3).map (fun i => (i.zero, i.size, i.bytes)) = some (some (.int .i64 0), 1, 8) := by kernel_rfl
@[reducible] def ow_PayTable : Ow PayTable := Ow.struct (fun (x : PayTable) => (x.Rows, x.Across, x.Down, x.Total)) (Ow.pair (Ow.list 23 (Ow.list 3 (Ow.sh Int))) (Ow.pair (Ow.list 3 (Ow.sh Int)) (Ow.pair (Ow.list 3 (Ow.sh Int)) (Ow.sh Int))))
theorem mixed : Tryz.prog.follows .mixedOrders = true := by kernel_rfl
theorem endm_c {P : Program} {e : Env} {ds : List Deferred} {w : World} {fn : Func} {R : Value → World → Prop} {t0 : Tmp} {v0 : Value} {y0 : TypeId} {a0 : Addr} (hres : fn.results = #[.cell t0 y0]) (hd : ds = []) (h0 : e t0 = .pointer (some a0)) (l0 : (loadVar y0 a0).run P w = .ok v0 w) (h : R v0 w) : atEnd P fn R .ret e ds w :=
 ⟨hd, fun tmps ht => ⟨_, by simp [results, hres, ht, asAddr, h0, l0], h⟩⟩
theorem layA_65 : ((Tryz.prog.info? 65).bind (·.zero)).map (·.cells.toList) = some [.int .i64 0, .int .i64 0] := by kernel_rfl
theorem szA_3 : (Tryz.prog.info? 3).map (·.size) = some 1 := by kernel_rfl
theorem info_65 : (Tryz.prog.info? 65).map (fun i => (i.zero, i.size, i.bytes)) = some (some (.agg #[.int .i64 0, .int .i64 0]), 2, 16) := by kernel_rfl
theorem lay_58 : layoutOf Tryz.prog 58 = some ([.slice none 0 0, .slice none 0 0, .slice none 0 0, .int .i64 0], [(0, 1), (1, 1), (2, 1), (3, 1)]) := by kernel_rfl
theorem fl_PayTable_2 : Fl ow_PayTable (Ow.list 3 (Ow.sh Int)) 2 (fun (x : PayTable) y => { x with Down := y }) (fun (q : (ow_PayTable).S) (r : ((Ow.list 3 (Ow.sh Int))).S) => (Prod.fst q, (Prod.fst (Prod.snd q), (r, Prod.snd (Prod.snd (Prod.snd q)))))) := Fl.of _ (Fl.comp Prod.snd Prod.snd (Fl.snd _ _) (Fl.comp Prod.snd Prod.snd (Fl.snd _ _) (Fl.fst _ _) rfl) rfl) (fun _ _ => rfl)
theorem fl_PayTable_0 : Fl ow_PayTable (Ow.list 23 (Ow.list 3 (Ow.sh Int))) 0 (fun (x : PayTable) y => { x with Rows := y }) (fun (q : (ow_PayTable).S) (r : ((Ow.list 23 (Ow.list 3 (Ow.sh Int)))).S) => (r, Prod.snd q)) := Fl.of _ (Fl.fst _ _) (fun _ _ => rfl)
theorem info_23 : (Tryz.prog.info? 23).map (fun i => (i.zero, i.size, i.bytes)) = some (some (.slice none 0 0), 1, 24) := by kernel_rfl
theorem fl_PayTable_1 : Fl ow_PayTable (Ow.list 3 (Ow.sh Int)) 1 (fun (x : PayTable) y => { x with Across := y }) (fun (q : (ow_PayTable).S) (r : ((Ow.list 3 (Ow.sh Int))).S) => (Prod.fst q, (r, Prod.snd (Prod.snd q)))) := Fl.of _ (Fl.comp Prod.snd Prod.snd (Fl.snd _ _) (Fl.fst _ _) rfl) (fun _ _ => rfl)
theorem capf_0_2 {e : Env} {f : FuncId} {o0 : Operand} {u3 : Operand} {b0 : Value} {b1 : Value} (hb0 : ev e o0 = b0) (hb1 : ev e u3 = b1) : (Value.func (.func f) ((#[] : Array Operand).map (ev e)) ((#[o0, u3] : Array Operand).map (ev e))) = .func (.func f) #[] #[b0, b1] := by simp [hb0, hb1]
theorem lay_132 : layoutOf Tryz.prog 132 = some ([.slice none 0 0, .slice none 0 0, .slice none 0 0, .int .i64 0], [(0, 4)]) := by kernel_rfl
theorem lay_100 : layoutOf Tryz.prog 100 = some ([.int .i64 0, .int .i64 0, .int .i64 0, .int .i64 0], [(0, 1), (1, 1), (2, 1), (3, 1)]) := by kernel_rfl
theorem info_100 : (Tryz.prog.info? 100).map (fun i => (i.zero, i.size, i.bytes)) = some (some (.agg #[.int .i64 0, .int .i64 0, .int .i64 0, .int .i64 0]), 4, 32) := by kernel_rfl
theorem capf_0_1 {e : Env} {f : FuncId} {o0 : Operand} {b0 : Value} (hb0 : ev e o0 = b0) : (Value.func (.func f) ((#[] : Array Operand).map (ev e)) ((#[o0] : Array Operand).map (ev e))) = .func (.func f) #[] #[b0] := by simp [hb0]
theorem lay_165 : layoutOf Tryz.prog 165 = some ([.int .i64 0, .int .i64 0], [(0, 1), (1, 1)]) := by kernel_rfl
theorem info_165 : (Tryz.prog.info? 165).map (fun i => (i.zero, i.size, i.bytes)) = some (some (.agg #[.int .i64 0, .int .i64 0]), 2, 16) := by kernel_rfl
theorem fl_PayTable_3 : Fl ow_PayTable (Ow.sh Int) 3 (fun (x : PayTable) y => { x with Total := y }) (fun (q : (ow_PayTable).S) (r : ((Ow.sh Int)).S) => (Prod.fst q, (Prod.fst (Prod.snd q), (Prod.fst (Prod.snd (Prod.snd q)), r)))) := Fl.of _ (Fl.comp Prod.snd Prod.snd (Fl.snd _ _) (Fl.comp Prod.snd Prod.snd (Fl.snd _ _) (Fl.comp Prod.snd Prod.snd (Fl.snd _ _) (Fl.id_ _) rfl) rfl) rfl) (fun _ _ => rfl)
theorem endm_ct {P : Program} {e : Env} {ds : List Deferred} {w : World} {fn : Func} {R : Value → World → Prop} {t0 : Tmp} {v0 : Value} {y0 : TypeId} {a0 : Addr} {t1 : Tmp} {v1 : Value} (hres : fn.results = #[.cell t0 y0, .tmp t1]) (hd : ds = []) (h0 : e t0 = .pointer (some a0)) (l0 : (loadVar y0 a0).run P w = .ok v0 w) (h1 : e t1 = v1) (h : R (.tuple #[v0, v1]) w) : atEnd P fn R .ret e ds w :=
 ⟨hd, fun tmps ht => ⟨_, by simp [results, hres, ht, asAddr, h0, l0, h1], h⟩⟩
theorem fl_100 : Tryz.prog.fieldsOf 100 = #[{ name := "Kind", type := 98, offset := 0, embedded := false, tag := "", pkgPath := "", byteOffset := 0 }, { name := "Row", type := 3, offset := 1, embedded := false, tag := "", pkgPath := "", byteOffset := 8 }, { name := "Column", type := 3, offset := 2, embedded := false, tag := "", pkgPath := "", byteOffset := 16 }, { name := "Number", type := 3, offset := 3, embedded := false, tag := "", pkgPath := "", byteOffset := 24 }] := by kernel_rfl
theorem seq_100 : SEq (α := PayEntry) Tryz.prog 100 := by
 intro d x y w a b m wx m2 wy hx hy
 obtain ⟨_, ⟨_, _, rfl, rfl, ⟨_, _, rfl, rfl, ⟨_, _, rfl, rfl, rfl⟩⟩⟩, rfl⟩ := hx
 obtain ⟨_, ⟨_, _, rfl, rfl, ⟨_, _, rfl, rfl, ⟨_, _, rfl, rfl, rfl⟩⟩⟩, rfl⟩ := hy
 refine (run_equalIn_struct w (d + 1) 100 _ _ (by kernel_rfl) (by kernel_rfl)).trans ?_
 rw [fl_100]
 obtain ⟨x0, x1, x2, x3⟩ := x
 obtain ⟨y0, y1, y2, y3⟩ := y
 show (Op.eqFields (d + 1) #[.int .i64 (x0), .int .i64 (x1), .int .i64 (x2), .int .i64 (x3)] #[.int .i64 (y0), .int .i64 (y1), .int .i64 (y2), .int .i64 (y3)] _).run _ _ = _
 have x0p : (part 98 #[.int .i64 (x0), .int .i64 (x1), .int .i64 (x2), .int .i64 (x3)] 0).run Tryz.prog w = .ok (.int .i64 (x0)) w := part_one Tryz.isAgg98 rfl
 have x1p : (part 3 #[.int .i64 (x0), .int .i64 (x1), .int .i64 (x2), .int .i64 (x3)] 1).run Tryz.prog w = .ok (.int .i64 (x1)) w := part_one Tryz.isAgg3 rfl
 have x2p : (part 3 #[.int .i64 (x0), .int .i64 (x1), .int .i64 (x2), .int .i64 (x3)] 2).run Tryz.prog w = .ok (.int .i64 (x2)) w := part_one Tryz.isAgg3 rfl
 have x3p : (part 3 #[.int .i64 (x0), .int .i64 (x1), .int .i64 (x2), .int .i64 (x3)] 3).run Tryz.prog w = .ok (.int .i64 (x3)) w := part_one Tryz.isAgg3 rfl
 have y0p : (part 98 #[.int .i64 (y0), .int .i64 (y1), .int .i64 (y2), .int .i64 (y3)] 0).run Tryz.prog w = .ok (.int .i64 (y0)) w := part_one Tryz.isAgg98 rfl
 have y1p : (part 3 #[.int .i64 (y0), .int .i64 (y1), .int .i64 (y2), .int .i64 (y3)] 1).run Tryz.prog w = .ok (.int .i64 (y1)) w := part_one Tryz.isAgg3 rfl
 have y2p : (part 3 #[.int .i64 (y0), .int .i64 (y1), .int .i64 (y2), .int .i64 (y3)] 2).run Tryz.prog w = .ok (.int .i64 (y2)) w := part_one Tryz.isAgg3 rfl
 have y3p : (part 3 #[.int .i64 (y0), .int .i64 (y1), .int .i64 (y2), .int .i64 (y3)] 3).run Tryz.prog w = .ok (.int .i64 (y3)) w := part_one Tryz.isAgg3 rfl
 simp only [Op.eqFields, Sem.run_bind, Sem.run_ite, Sem.run_pure, x0p, x1p, x2p, x3p, y0p, y1p, y2p, y3p, Result.andThen_ok, run_equalIn_int _ _ _ _ _ _ _ Tryz.underlying98, run_equalIn_int _ _ _ _ _ _ _ Tryz.underlying3]
 simp
 grind
theorem eg_100 : Tryz.prog.eqGuardType Tryz.prog.depth 100 = false := by kernel_rfl
def f12 : Option Bool := some true
theorem en12 : Enters Tryz.prog 12 := enters_of Tryz.func12 (by kernel_rfl) rfl
theorem wk12 {gI : Gh} {wI : World} {r : Bool} (h : f12 = some r) : Fn Tryz.prog 12 #[] gI wI (fun _ _ v => v = .bool (r)) := by
 injection h with h
 subst h
 exact wkK12
def f25 (x0 : Int) (x1 : Int) (x2 : Int) : Option (Bool) :=
 Option.bind (α := Bool) (
  bif (decide (x0 ≥ x1)) then
   some ((decide (x0 ≤ x2)))
  else
   some (false)
  ) fun o0 =>
 some (o0)
theorem en25 : Enters Tryz.prog 25 := enters_of Tryz.func25 (by kernel_rfl) rfl
theorem wk25 {gI : Gh} {wI : World} {x0 : Int} {x1 : Int} {x2 : Int}  {r : Bool} (h : f25 x0 x1 x2 = some r) : Fn Tryz.prog 25 #[.int .i64 (x0), .int .i64 (x1), .int .i64 (x2)] gI wI (fun _ _ v => v = .bool (r)) := by
 unfold f25 at h
 refine fn_of_E Tryz.func25 rfl (Nat.le_of_ble_eq_true rfl) fun g0 hm hfr => ?_
 show E _ 15 none _ _ _ _ _
 refine E_seq (E_region (EL_at (.bool false) rfl rfl ?_))
 refine EL_nil (thn_n ?_)
 obtain ⟨o0, hx, h⟩ := bsome h
 refine E_join (fun e w => ∃ (g : Gh) , Fr gI wI g w ∧ e 6 = .bool (o0)) (fun Q' hQ => ?_) (fun l5 w3 hR => ?_)
 ·replace h := hx
  clear hx
  refine E_region (EL_mw (.int .i64 (x0)) rfl rfl ?_)
  refine EL_mw (.int .i64 (x1)) rfl rfl ?_
  refine EL_in (.bool ((decide (x0 ≥ x1)))) rfl rfl rfl rfl ?_
  refine EL_mw (.bool ((decide (x0 ≥ x1)))) rfl rfl ?_
  rcases csome h with ⟨hc2, h⟩ | ⟨hc2, h⟩
  ·refine EL_y (.int .i64 (x0)) (P_move rfl) rfl rfl hc2 rfl ?_
   refine EL_y (.int .i64 (x2)) (P_move rfl) rfl rfl hc2 rfl ?_
   refine EL_y (.bool ((decide (x0 ≤ x2)))) (P_int rfl rfl rfl) rfl rfl hc2 rfl ?_
   refine EL_p (.bool ((decide (x0 ≤ x2)))) (P_pick (b := (decide (x0 ≥ x1))) rfl (pick_t hc2 rfl)) rfl ?_
   refine EL_at (.bool ((decide (x0 ≤ x2)))) rfl rfl ?_
   refine EL_nil ?_
   obtain rfl := sinj h
   exact hQ _ _ ⟨g0, hfr, rfl⟩
  ·refine EL_s rfl rfl hc2 rfl rfl ?_
   refine EL_s rfl rfl hc2 rfl rfl ?_
   refine EL_s rfl rfl hc2 rfl rfl ?_
   refine EL_p (.bool false) (P_pick (b := (decide (x0 ≥ x1))) rfl (pick_f hc2 rfl)) rfl ?_
   refine EL_at (.bool false) rfl rfl ?_
   refine EL_nil ?_
   obtain rfl := sinj h
   exact hQ _ _ ⟨g0, hfr, rfl⟩
 ·clear hx
  obtain ⟨g3, hfr, u3⟩ := hR
  refine E_ret ?_
  obtain rfl := sinj h
  exact end1 rfl rfl (show _ = .bool (o0) from u3) ⟨_, hfr, rfl⟩
def f29 (x0 : List Int) (x1 : List Int) : Option (Bool) :=
 jn (σ := Unit) (fun _ =>
  jn (σ := Unit) (fun _ =>
   some (true)
   ) fun k53 =>
  lp (σ := Int) (fun k54 o0 =>
   jn (σ := Unit) (fun _ =>
    jn (σ := Unit) (fun _ =>
     k54 ((w64 (o0 + (1 : Int))))
     ) fun k9 =>
    (idx x0 o0).bind fun j6 =>
    (idx x1 o0).bind fun x6 =>
    bif (j6 != x6) then
     some (false)
    else
     k9 ()
    ) fun k57 =>
   bif (decide (o0 < ((x0).length : Int))) then
    k57 ()
   else
    k53 ()
   ) big ((0 : Int))
  ) fun k2 =>
 bif (((x0).length : Int) != ((x1).length : Int)) then
  some (false)
 else
  k2 ()
theorem en29 : Enters Tryz.prog 29 := enters_of Tryz.func29 (by kernel_rfl) rfl
theorem wk29 {gI : Gh} {wI : World} {x0 : List Int} {x1 : List Int} {up0 : Value} (rp0 : RV gI.m wI x0 up0) {up1 : Value} (rp1 : RV gI.m wI x1 up1) {r : Bool} (h : f29 x0 x1 = some r) : Fn Tryz.prog 29 #[up0, up1] gI wI (fun _ _ v => v = .bool (r)) := by
 unfold f29 at h
 refine fn_of_E Tryz.func29 rfl (Nat.le_of_ble_eq_true rfl) fun g0 hm hfr => ?_
 have rp0 : RV g0.m wI x0 up0 := hm ▸ rp0
 have rp1 : RV g0.m wI x1 up1 := hm ▸ rp1
 show E _ 26 none _ _ _ _ _
 refine E_seq (E_region (EL_at (.bool false) rfl rfl ?_))
 refine EL_nil (thn_n (E_joinC h (fun (s : Unit) e w => ∃ (g : Gh) , Fr gI wI g w ∧ e 0 = up0 ∧ RV g.m w (x0 : List Int) up0 ∧ e 1 = up1 ∧ RV g.m w (x1 : List Int) up1) (fun X2 k2 hk2 h => ?_) ?_))
 ·refine E_seq (E_region (EL_mw up0 rfl rfl ?_))
  refine EL_p (.int .i64 ((x0).length : Int)) (P_len Tryz.underlying23 rfl rp0) rfl ?_
  refine EL_mw up1 rfl rfl ?_
  refine EL_p (.int .i64 ((x1).length : Int)) (P_len Tryz.underlying23 rfl rp1) rfl ?_
  refine EL_in (.bool ((((x0).length : Int) != ((x1).length : Int)))) rfl rfl rfl rfl ?_
  refine EL_nil (thn_n ?_)
  rcases csome h with ⟨hc3, h⟩ | ⟨hc3, h⟩
  ·refine E_ct hc3 rfl ?_
   refine E_seq (E_region (EL_at (.bool false) rfl rfl ?_))
   refine EL_nil (thn_n (E_ret (thn_r ?_)))
   obtain rfl := sinj h
   exact end1 rfl rfl (show _ = .bool false from rfl) ⟨_, hfr, rfl⟩
  ·refine E_cf hc3 rfl ?_
   exact E_skip (thn_n (hk2 () _ _ ⟨g0, hfr, rfl, rp0, rfl, rp1⟩ h))
 ·rintro _ rC w4 ⟨g4, hfr, n9, u9, y9, z9⟩ h
  refine E_joinC h (fun (s : Unit) e w => ∃ (g : Gh) , Fr gI wI g w) (fun X53 k53 bA h => ?_) ?_
  ·refine E_seq (E_region (EL_at (.int .i64 (0)) rfl rfl ?_))
   refine EL_nil (thn_n (E_block ?_))
   refine E_lp h (fun (s : Int) e w => ∃ (g : Gh) , Fr gI wI g w ∧ e 0 = up0 ∧ RV g.m w (x0 : List Int) up0 ∧ e 1 = up1 ∧ RV g.m w (x1 : List Int) up1 ∧ e 5 = .int .i64 (s)) ⟨g4, hfr, n9, u9, y9, z9, rfl⟩ (fun X54 k54 iA => ?_)
   rintro o0 zB uC ⟨l9, hfr, y6, d7, a9, d9, i7⟩ h
   refine E_joinC h (fun (s : Unit) e w => ∃ (g : Gh) , Fr gI wI g w ∧ e 0 = up0 ∧ RV g.m w (x0 : List Int) up0 ∧ e 1 = up1 ∧ RV g.m w (x1 : List Int) up1 ∧ e 5 = .int .i64 (o0)) (fun X57 k57 rA h => ?_) ?_
   ·refine E_seq (E_region (EL_mv i7 rfl ?_))
    refine EL_mv y6 rfl ?_
    refine EL_p (.int .i64 ((x0).length : Int)) (P_len Tryz.underlying23 rfl d7) rfl ?_
    refine EL_in (.bool ((decide (o0 < ((x0).length : Int))))) rfl rfl rfl rfl ?_
    refine EL_nil (thn_n ?_)
    rcases csome h with ⟨i6, h⟩ | ⟨i6, h⟩
    ·refine E_ct i6 rfl ?_
     exact E_skip (thn_n (rA () _ _ ⟨l9, hfr, y6, d7, a9, d9, i7⟩ h))
    ·refine E_cf i6 rfl ?_
     refine E_exit ?_
     refine thn_e ?_
     refine thn_e ?_
     refine blk_hit ?_
     exact thn_n (bA () _ _ ⟨l9, hfr⟩ h)
   ·rintro _ cC vC ⟨jB, hfr, m7, u3, g8, l5, t5⟩ h
    refine E_joinC h (fun (s : Unit) e w => ∃ (g : Gh) , Fr gI wI g w ∧ e 0 = up0 ∧ RV g.m w (x0 : List Int) up0 ∧ e 1 = up1 ∧ RV g.m w (x1 : List Int) up1 ∧ e 5 = .int .i64 (o0)) (fun X81 k9 yA h => ?_) ?_
    ·refine E_block ?_
     refine E_seq ?_
     obtain ⟨j6, k8, h⟩ := bsome h
     have lB := PT_idx u3 k8
     refine L_load (x := .tmp 19) Tryz.isAgg3 Tryz.sizeOf3 lB fun aD mB aB => ?_
     obtain rfl := RV_int.1 mB
     obtain ⟨x6, l8, h⟩ := bsome h
     have nB := PT_idx l5 l8
     refine L_load (x := .tmp 23) Tryz.isAgg3 Tryz.sizeOf3 nB fun bD oB dB => ?_
     obtain rfl := RV_int.1 oB
     refine E_drawL (g := jB) (n := 9) [] [0, 1, 2, 3, 4, 5, 6, 7, 8] rfl mixed (by kernel_rfl) trivial ?_
     refine L_p up0 rfl rfl (P_move m7) ?_
     refine L_p (.int .i64 (o0)) rfl rfl (P_move t5) ?_
     refine L_p (ePtr up0 o0 1) rfl rfl (P_indexAddr (α := Int) Tryz.underlying23 Tryz.sizeOf3 rfl u3 rfl k8) ?_
     refine L_ld (c := .int .i64 (j6)) rfl rfl .plain (fun _ _ h => h.ch) aB rfl ?_
     refine L_p up1 rfl rfl (P_move g8) ?_
     refine L_p (.int .i64 (o0)) rfl rfl (P_move t5) ?_
     refine L_p (ePtr up1 o0 1) rfl rfl (P_indexAddr (α := Int) Tryz.underlying23 Tryz.sizeOf3 rfl l5 rfl l8) ?_
     refine L_ld (c := .int .i64 (x6)) rfl rfl .plain (fun _ _ h => h.ch) dB rfl ?_
     refine L_p (.bool ((j6 != x6))) rfl rfl (P_int rfl rfl rfl) ?_
     refine L_nl fun tB cD hs => ?_
     have hfr := hfr.ext hs
     have u3 := u3.ext hs
     have l5 := l5.ext hs
     clear hs
     refine EL_nil (thn_n ?_)
     rcases csome h with ⟨x5, h⟩ | ⟨x5, h⟩
     ·refine E_ct x5 rfl ?_
      refine E_seq (E_region (EL_at (.bool false) rfl rfl ?_))
      refine EL_nil (thn_n (E_ret (blk_r ?_)))
      refine thn_r ?_
      refine thn_r ?_
      refine blk_r ?_
      refine thn_r ?_
      obtain rfl := sinj h
      exact end1 rfl rfl (show _ = .bool false from rfl) ⟨_, hfr, rfl⟩
     ·refine E_cf x5 rfl ?_
      exact E_skip (blk_n (thn_n (yA () _ _ ⟨tB, hfr, m7, u3, g8, l5, t5⟩ h)))
    ·rintro _ vB eC ⟨iB, hfr, m8, n8, r8, v8, x8⟩ h
     refine E_region (EL_mv x8 rfl ?_)
     refine EL_in (.int .i64 ((w64 (o0 + (1 : Int))))) rfl rfl rfl rfl ?_
     refine EL_at (.int .i64 ((w64 (o0 + (1 : Int))))) rfl rfl ?_
     exact EL_nil (thn_n (iA ((w64 (o0 + (1 : Int)))) _ _ ⟨iB, hfr, m8, n8, r8, v8, rfl⟩ h))
  ·rintro _ yB mC ⟨qC, hfr⟩ h
   refine E_seq (E_region (EL_at (.bool true) rfl rfl ?_))
   refine EL_nil (thn_n (E_ret ?_))
   obtain rfl := sinj h
   exact end1 rfl rfl (show _ = .bool true from rfl) ⟨_, hfr, rfl⟩
def f30 (x0 : PayTable) : Option (Bool) :=
 jn (σ := Unit) (fun _ =>
  Option.bind (α := Bool) (
   bif (decide ((((x0).Rows).length : Int) > (10 : Int))) then
    some (true)
   else
    bif (decide ((((x0).Across).length : Int) > (10 : Int))) then
     some (true)
    else
     some ((decide ((((x0).Down).length : Int) > (10 : Int))))
   ) fun j6 =>
  some (j6)
  ) fun iA =>
 lp (σ := Int) (fun rA o0 =>
  jn (σ := Unit) (fun _ =>
   jn (σ := Unit) (fun _ =>
    rA ((w64 (o0 + (1 : Int))))
    ) fun yA =>
   (idx ((x0).Rows) o0).bind fun n8 =>
   bif (decide (((n8).length : Int) > (10 : Int))) then
    some (true)
   else
    yA ()
   ) fun aB =>
  Option.bind (α := Bool) (
   bif (decide (o0 < (((x0).Rows).length : Int))) then
    some ((decide (o0 < (11 : Int))))
   else
    some (false)
   ) fun t5 =>
  bif t5 then
   aB ()
  else
   iA ()
  ) big ((0 : Int))
theorem en30 : Enters Tryz.prog 30 := enters_of Tryz.func30 (by kernel_rfl) rfl
theorem wk30 {gI : Gh} {wI : World} {x0 : PayTable} {up0 : Value} (rp0 : RV gI.m wI x0 up0) {r : Bool} (h : f30 x0 = some r) : Fn Tryz.prog 30 #[up0] gI wI (fun _ _ v => v = .bool (r)) := by
 unfold f30 at h
 refine fn_of_E Tryz.func30 rfl (Nat.le_of_ble_eq_true rfl) fun g0 hm hfr => ?_
 have rp0 : RV g0.m wI x0 up0 := hm ▸ rp0
 show E _ 38 none _ _ _ _ _
 refine E_seq (E_region (EL_do .plain rfl (D_box (g := g0) rfl rp0 fun g1 w1 p1 hs q1 => ?_)))
 have hfr := hfr.ext hs
 refine EL_at (.bool false) rfl rfl ?_
 refine EL_nil (thn_n (E_joinC h (fun (s : Unit) e w => ∃ (g : Gh) , Fr gI wI g w ∧ e 1 = p1 ∧ PT g.m w (x0 : PayTable) p1) (fun X36 iA jB h => ?_) ?_))
 ·refine E_seq (E_region (EL_at (.int .i64 (0)) rfl rfl ?_))
  refine EL_nil (thn_n (E_block ?_))
  refine E_lp h (fun (s : Int) e w => ∃ (g : Gh) , Fr gI wI g w ∧ e 1 = p1 ∧ PT g.m w (x0 : PayTable) p1 ∧ e 3 = .int .i64 (s)) ⟨g1, hfr, rfl, q1, rfl⟩ (fun X37 rA lB => ?_)
  rintro o0 bD lD ⟨d9, hfr, i7, x6, y6⟩ h
  refine E_joinC h (fun (s : Unit) e w => ∃ (g : Gh) , Fr gI wI g w ∧ e 1 = p1 ∧ PT g.m w (x0 : PayTable) p1 ∧ e 3 = .int .i64 (o0)) (fun X47 aB mB h => ?_) ?_
  ·obtain ⟨t5, hx, h⟩ := bsome h
   refine E_join (fun e w => ∃ (g : Gh) , Fr gI wI g w ∧ e 1 = p1 ∧ PT g.m w (x0 : PayTable) p1 ∧ e 3 = .int .i64 (o0) ∧ e 12 = .bool (t5)) (fun Q' hQ => ?_) (fun cD mD hR => ?_)
   ·replace h := hx
    clear hx
    refine E_region (EL_mv y6 rfl ?_)
    refine EL_p (fPtr p1 0) (P_fieldAddr at_58_0 i7 (PT.ptr x6)) rfl ?_
    have oB := PT_field (part_PayTable_0).1 x6
    refine EL_do .plain rfl (D_load (g := d9) Tryz.isAgg56 Tryz.sizeOf56 rfl oB fun nD tB => ?_)
    refine EL_p (.int .i64 (((x0).Rows).length : Int)) (P_len Tryz.underlying56 rfl tB) rfl ?_
    refine EL_p (.bool ((decide (o0 < (((x0).Rows).length : Int))))) (P_int rfl rfl rfl) rfl ?_
    refine EL_p (.bool ((decide (o0 < (((x0).Rows).length : Int))))) (P_move rfl) rfl ?_
    rcases csome h with ⟨i6, h⟩ | ⟨i6, h⟩
    ·refine EL_y (.int .i64 (o0)) (P_move y6) rfl rfl i6 rfl ?_
     refine EL_y (.bool ((decide (o0 < (11 : Int))))) (P_int rfl rfl rfl) rfl rfl i6 rfl ?_
     refine EL_p (.bool ((decide (o0 < (11 : Int))))) (P_pick (b := (decide (o0 < (((x0).Rows).length : Int)))) rfl (pick_t i6 rfl)) rfl ?_
     refine EL_nil ?_
     obtain rfl := sinj h
     exact hQ _ _ ⟨d9, hfr, i7, x6, y6, rfl⟩
    ·refine EL_s rfl rfl i6 rfl rfl ?_
     refine EL_s rfl rfl i6 rfl rfl ?_
     refine EL_p (.bool false) (P_pick (b := (decide (o0 < (((x0).Rows).length : Int)))) rfl (pick_f i6 rfl)) rfl ?_
     refine EL_nil ?_
     obtain rfl := sinj h
     exact hQ _ _ ⟨d9, hfr, i7, x6, y6, rfl⟩
   ·clear hx
    obtain ⟨dB, hfr, r8, v8, n9, k8⟩ := hR
    rcases csome h with ⟨l8, h⟩ | ⟨l8, h⟩
    ·refine E_cond_true (Eq.trans (show ev _ _ = .bool (t5) from k8) (congrArg Value.bool l8)) ?_
     exact E_skip (thn_n (mB () _ _ ⟨dB, hfr, r8, v8, n9⟩ h))
    ·refine E_cond_false (Eq.trans (show ev _ _ = .bool (t5) from k8) (congrArg Value.bool l8)) ?_
     refine E_exit ?_
     refine thn_e ?_
     refine thn_e ?_
     refine blk_hit ?_
     exact thn_n (jB () _ _ ⟨dB, hfr, r8, v8⟩ h)
  ·rintro _ eD oD ⟨k9, hfr, x8, m7, a9⟩ h
   refine E_joinC h (fun (s : Unit) e w => ∃ (g : Gh) , Fr gI wI g w ∧ e 1 = p1 ∧ PT g.m w (x0 : PayTable) p1 ∧ e 3 = .int .i64 (o0)) (fun X63 yA nB h => ?_) ?_
   ·refine E_block ?_
    refine E_seq (E_region (EL_p (fPtr p1 0) (P_fieldAddr at_58_0 x8 (PT.ptr m7)) rfl ?_))
    have vB := PT_field (part_PayTable_0).1 m7
    refine EL_do .plain rfl (D_load (g := k9) Tryz.isAgg56 Tryz.sizeOf56 rfl vB fun yB iB => ?_)
    refine EL_mv a9 rfl ?_
    obtain ⟨n8, l9, h⟩ := bsome h
    refine EL_p (ePtr yB o0 1) (P_indexAddr (α := List Int) Tryz.underlying56 Tryz.sizeOf23 rfl iB rfl l9) rfl ?_
    have zB := PT_idx iB l9
    refine EL_do .plain rfl (D_load (g := k9) Tryz.isAgg23 Tryz.sizeOf23 rfl zB fun sD cC => ?_)
    refine EL_p (.int .i64 ((n8).length : Int)) (P_len Tryz.underlying23 rfl cC) rfl ?_
    refine EL_in (.bool ((decide (((n8).length : Int) > (10 : Int))))) rfl rfl rfl rfl ?_
    refine EL_nil (thn_n ?_)
    rcases csome h with ⟨m8, h⟩ | ⟨m8, h⟩
    ·refine E_ct m8 rfl ?_
     refine E_seq (E_region (EL_at (.bool true) rfl rfl ?_))
     refine EL_nil (thn_n (E_ret (blk_r ?_)))
     refine thn_r ?_
     refine thn_r ?_
     refine blk_r ?_
     refine thn_r ?_
     obtain rfl := sinj h
     exact end1 rfl rfl (show _ = .bool true from rfl) ⟨_, hfr, rfl⟩
    ·refine E_cf m8 rfl ?_
     exact E_skip (blk_n (thn_n (nB () _ _ ⟨k9, hfr, x8, m7, a9⟩ h)))
   ·rintro _ gD tD ⟨eC, hfr, u9, y9, z9⟩ h
    refine E_region (EL_mv z9 rfl ?_)
    refine EL_in (.int .i64 ((w64 (o0 + (1 : Int))))) rfl rfl rfl rfl ?_
    refine EL_at (.int .i64 ((w64 (o0 + (1 : Int))))) rfl rfl ?_
    exact EL_nil (thn_n (lB ((w64 (o0 + (1 : Int)))) _ _ ⟨eC, hfr, u9, y9, rfl⟩ h))
 ·rintro _ iD uD ⟨d7, hfr, g8, x5⟩ h
  obtain ⟨j6, hx, h⟩ := bsome h
  refine E_join (fun e w => ∃ (g : Gh) , Fr gI wI g w ∧ e 2 = .bool (j6)) (fun Q' hQ => ?_) (fun jD vD hR => ?_)
  ·replace h := hx
   clear hx
   refine E_region (EL_p (fPtr p1 0) (P_fieldAddr at_58_0 g8 (PT.ptr x5)) rfl ?_)
   have mC := PT_field (part_PayTable_0).1 x5
   refine EL_do .plain rfl (D_load (g := d7) Tryz.isAgg56 Tryz.sizeOf56 rfl mC fun xD qC => ?_)
   refine EL_p (.int .i64 (((x0).Rows).length : Int)) (P_len Tryz.underlying56 rfl qC) rfl ?_
   refine EL_p (.bool ((decide ((((x0).Rows).length : Int) > (10 : Int))))) (P_int rfl rfl rfl) rfl ?_
   refine EL_p (.bool ((decide ((((x0).Rows).length : Int) > (10 : Int))))) (P_move rfl) rfl ?_
   rcases csome h with ⟨u3, h⟩ | ⟨u3, h⟩
   ·refine EL_s rfl rfl u3 rfl rfl ?_
    iterate 3 refine EL_s rfl rfl u3 rfl rfl ?_
    refine EL_p (.bool true) (P_pick (b := (decide ((((x0).Rows).length : Int) > (10 : Int)))) rfl (pick_t u3 rfl)) rfl ?_
    refine EL_dead 6 rfl ?_
    refine EL_at (.bool true) rfl rfl ?_
    refine EL_nil ?_
    obtain rfl := sinj h
    exact hQ _ _ ⟨d7, hfr, rfl⟩
   ·refine EL_y (fPtr p1 1) (P_fieldAddr at_58_1 g8 (PT.ptr x5)) rfl rfl u3 rfl ?_
    have rC := PT_field (part_PayTable_1).1 x5
    refine EL_do (.yes2 rfl rfl u3) rfl (D_load (g := d7) Tryz.isAgg23 Tryz.sizeOf23 rfl rC fun yD uC => ?_)
    refine EL_y (.int .i64 (((x0).Across).length : Int)) (P_len Tryz.underlying23 rfl uC) rfl rfl u3 rfl ?_
    refine EL_y (.bool ((decide ((((x0).Across).length : Int) > (10 : Int))))) (P_int rfl rfl rfl) rfl rfl u3 rfl ?_
    refine EL_p (.bool ((decide ((((x0).Across).length : Int) > (10 : Int))))) (P_pick (b := (decide ((((x0).Rows).length : Int) > (10 : Int)))) rfl (pick_f u3 rfl)) rfl ?_
    refine EL_p (.bool ((decide ((((x0).Across).length : Int) > (10 : Int))))) (P_move rfl) rfl ?_
    rcases csome h with ⟨l5, h⟩ | ⟨l5, h⟩
    ·refine EL_s rfl rfl l5 rfl rfl ?_
     iterate 3 refine EL_s rfl rfl l5 rfl rfl ?_
     refine EL_p (.bool true) (P_pick (b := (decide ((((x0).Across).length : Int) > (10 : Int)))) rfl (pick_t l5 rfl)) rfl ?_
     refine EL_at (.bool true) rfl rfl ?_
     refine EL_nil ?_
     obtain rfl := sinj h
     exact hQ _ _ ⟨d7, hfr, rfl⟩
    ·refine EL_y (fPtr p1 2) (P_fieldAddr at_58_2 g8 (PT.ptr x5)) rfl rfl l5 rfl ?_
     have vC := PT_field (part_PayTable_2).1 x5
     refine EL_do (.yes2 rfl rfl l5) rfl (D_load (g := d7) Tryz.isAgg23 Tryz.sizeOf23 rfl vC fun zD aD => ?_)
     refine EL_y (.int .i64 (((x0).Down).length : Int)) (P_len Tryz.underlying23 rfl aD) rfl rfl l5 rfl ?_
     refine EL_y (.bool ((decide ((((x0).Down).length : Int) > (10 : Int))))) (P_int rfl rfl rfl) rfl rfl l5 rfl ?_
     refine EL_p (.bool ((decide ((((x0).Down).length : Int) > (10 : Int))))) (P_pick (b := (decide ((((x0).Across).length : Int) > (10 : Int)))) rfl (pick_f l5 rfl)) rfl ?_
     refine EL_p (.bool ((decide ((((x0).Down).length : Int) > (10 : Int))))) (P_assign rfl) rfl ?_
     refine EL_nil ?_
     obtain rfl := sinj h
     exact hQ _ _ ⟨d7, hfr, rfl⟩
  ·clear hx
   obtain ⟨aE, hfr, bA⟩ := hR
   refine E_ret ?_
   obtain rfl := sinj h
   exact end1 rfl rfl (show _ = .bool (j6) from bA) ⟨_, hfr, rfl⟩
def f31 (x0 : PayTable) : Option (Int) :=
 jn (σ := Unit) (fun _ =>
  jn (σ := Unit) (fun _ =>
   jn (σ := Unit) (fun _ =>
    jn (σ := Unit) (fun _ =>
     jn (σ := Int) (fun m7 =>
      jn (σ := Unit) (fun _ =>
       jn (σ := Unit) (fun _ =>
        jn (σ := Unit) (fun _ =>
         some ((0 : Int))
         ) fun iG =>
        bif (decide (m7 > (12 : Int))) then
         some ((8 : Int))
        else
         iG ()
        ) fun jG =>
       (f25 ((x0).Total) ((0 : Int)) ((1000000000 : Int))).bind fun bE =>
       bif (!bE) then
        some ((2 : Int))
       else
        jG ()
       ) fun kG =>
      lp (σ := Int) (fun lG j6 =>
       jn (σ := Unit) (fun _ =>
        jn (σ := Unit) (fun _ =>
         lG ((w64 (j6 + (1 : Int))))
         ) fun mG =>
        (idx ((x0).Down) j6).bind fun cE =>
        (f25 cE ((0 : Int)) ((1000000000 : Int))).bind fun dE =>
        bif (!dE) then
         some ((2 : Int))
        else
         mG ()
        ) fun nG =>
       bif (decide (j6 < (((x0).Down).length : Int))) then
        nG ()
       else
        kG ()
       ) big ((0 : Int))
      ) fun oG =>
     lp (σ := Int × Int) (fun sG (l8, o0) =>
      jn (σ := Unit) (fun _ =>
       jn (σ := Int) (fun u9 =>
        sG (u9, (w64 (o0 + (1 : Int))))
        ) fun tG =>
       jn (σ := Int) (fun y9 =>
        (idx ((x0).Across) o0).bind fun eE =>
        (f25 eE ((0 : Int)) ((1000000000 : Int))).bind fun iE =>
        bif (!iE) then
         some ((2 : Int))
        else
         tG (y9)
        ) fun uG =>
       lp (σ := Int × Int) (fun vG (x6, t5) =>
        jn (σ := Unit) (fun _ =>
         jn (σ := Int) (fun z9 =>
          vG (z9, (w64 (t5 + (1 : Int))))
          ) fun jE =>
         jn (σ := Unit) (fun _ =>
          (idx ((x0).Rows) o0).bind fun xG =>
          (idx xG t5).bind fun kE =>
          bif (kE == (-1 : Int)) then
           jE ((w64 (x6 + (1 : Int))))
          else
           jE (x6)
          ) fun yG =>
         (idx ((x0).Rows) o0).bind fun zG =>
         (idx zG t5).bind fun lE =>
         (f25 lE ((-1 : Int)) ((1000000 : Int))).bind fun mE =>
         bif (!mE) then
          some ((2 : Int))
         else
          yG ()
         ) fun aH =>
        (idx ((x0).Rows) o0).bind fun lB =>
        bif (decide (t5 < ((lB).length : Int))) then
         aH ()
        else
         uG (x6)
        ) big (l8, (0 : Int))
       ) fun cH =>
      bif (decide (o0 < (((x0).Rows).length : Int))) then
       cH ()
      else
       oG (l8)
      ) big ((0 : Int), (0 : Int))
     ) fun lJ =>
    lp (σ := Int) (fun mJ y6 =>
     jn (σ := Unit) (fun _ =>
      jn (σ := Unit) (fun _ =>
       mJ ((w64 (y6 + (1 : Int))))
       ) fun nJ =>
      (idx ((x0).Rows) y6).bind fun nE =>
      (idx ((x0).Rows) (0 : Int)).bind fun oE =>
      bif (((nE).length : Int) != ((oE).length : Int)) then
       some ((4 : Int))
      else
       nJ ()
      ) fun oJ =>
     bif (decide (y6 < (((x0).Rows).length : Int))) then
      oJ ()
     else
      lJ ()
     ) big ((0 : Int))
    ) fun pJ =>
   Option.bind (α := Bool) (
    bif ((((x0).Rows).length : Int) == (0 : Int)) then
     some (true)
    else
     (idx ((x0).Rows) (0 : Int)).bind fun d7 =>
     bif (((d7).length : Int) == (0 : Int)) then
      some (true)
     else
      bif ((((x0).Across).length : Int) != (((x0).Rows).length : Int)) then
       some (true)
      else
       (idx ((x0).Rows) (0 : Int)).bind fun yB =>
       some (((((x0).Down).length : Int) != ((yB).length : Int)))
    ) fun m8 =>
   bif m8 then
    some ((4 : Int))
   else
    pJ ()
   ) fun nO =>
  lp (σ := Int) (fun oO g8 =>
   jn (σ := Unit) (fun _ =>
    jn (σ := Unit) (fun _ =>
     oO ((w64 (g8 + (1 : Int))))
     ) fun pO =>
    (idx ((x0).Rows) g8).bind fun dH =>
    bif (decide (((dH).length : Int) > (6 : Int))) then
     some ((5 : Int))
    else
     pO ()
    ) fun qO =>
   bif (decide (g8 < (((x0).Rows).length : Int))) then
    qO ()
   else
    nO ()
   ) big ((0 : Int))
  ) fun k5 =>
 bif (decide ((((x0).Rows).length : Int) > (6 : Int))) then
  some ((5 : Int))
 else
  k5 ()
theorem en31 : Enters Tryz.prog 31 := enters_of Tryz.func31 (by kernel_rfl) rfl
theorem wk31 {gI : Gh} {wI : World} {x0 : PayTable} {up0 : Value} (rp0 : RV gI.m wI x0 up0) {r : Int} (h : f31 x0 = some r) : Fn Tryz.prog 31 #[up0] gI wI (fun _ _ v => v = .int .i64 (r)) := by
 unfold f31 at h
 refine fn_of_E Tryz.func31 rfl (Nat.le_of_ble_eq_true rfl) fun g0 hm hfr => ?_
 have rp0 : RV g0.m wI x0 up0 := hm ▸ rp0
 show E _ 143 none _ _ _ _ _
 refine E_seq (E_region (EL_do .plain rfl (D_box (g := g0) rfl rp0 fun g1 w1 p1 hs q1 => ?_)))
 have hfr := hfr.ext hs
 refine EL_at (.int .i64 (0)) rfl rfl ?_
 refine EL_nil (thn_n (E_joinC h (fun (s : Unit) e w => ∃ (g : Gh) , Fr gI wI g w ∧ e 1 = p1 ∧ PT g.m w (x0 : PayTable) p1) (fun X5 k5 hk5 h => ?_) ?_))
 ·refine E_seq (E_region (EL_p (fPtr p1 0) (P_fieldAddr at_58_0 rfl (PT.ptr q1)) rfl ?_))
  have q6 := PT_field (part_PayTable_0).1 q1
  refine EL_do .plain rfl (D_load (g := g1) Tryz.isAgg56 Tryz.sizeOf56 rfl q6 fun v7 r7 => ?_)
  refine EL_p (.int .i64 (((x0).Rows).length : Int)) (P_len Tryz.underlying56 rfl r7) rfl ?_
  refine EL_p (.bool ((decide ((((x0).Rows).length : Int) > (6 : Int))))) (P_int rfl rfl rfl) rfl ?_
  refine EL_nil (thn_n ?_)
  rcases csome h with ⟨hc8, h⟩ | ⟨hc8, h⟩
  ·refine E_ct hc8 rfl ?_
   refine E_seq (E_region (EL_at (.int .i64 (5)) rfl rfl ?_))
   refine EL_nil (thn_n (E_ret (thn_r ?_)))
   obtain rfl := sinj h
   exact end1 rfl rfl (show _ = .int .i64 (5) from rfl) ⟨_, hfr, rfl⟩
  ·refine E_cf hc8 rfl ?_
   exact E_skip (thn_n (hk5 () _ _ ⟨g1, hfr, rfl, q1⟩ h))
 ·rintro _ lU w9 ⟨g9, hfr, sO, tO⟩ h
  refine E_joinC h (fun (s : Unit) e w => ∃ (g : Gh) , Fr gI wI g w ∧ e 1 = p1 ∧ PT g.m w (x0 : PayTable) p1) (fun X34 nO uO h => ?_) ?_
  ·refine E_seq (E_region (EL_at (.int .i64 (0)) rfl rfl ?_))
   refine EL_nil (thn_n (E_block ?_))
   refine E_lp h (fun (s : Int) e w => ∃ (g : Gh) , Fr gI wI g w ∧ e 1 = p1 ∧ PT g.m w (x0 : PayTable) p1 ∧ e 3 = .int .i64 (s)) ⟨g9, hfr, sO, tO, rfl⟩ (fun X35 oO vO => ?_)
   rintro g8 pT mU ⟨qJ, hfr, rE, mB, gH⟩ h
   refine E_joinC h (fun (s : Unit) e w => ∃ (g : Gh) , Fr gI wI g w ∧ e 1 = p1 ∧ PT g.m w (x0 : PayTable) p1 ∧ e 3 = .int .i64 (g8)) (fun X40 qO xO h => ?_) ?_
   ·refine E_seq (E_region (EL_mv gH rfl ?_))
    refine EL_p (fPtr p1 0) (P_fieldAddr at_58_0 rE (PT.ptr mB)) rfl ?_
    have nQ := PT_field (part_PayTable_0).1 mB
    refine EL_do .plain rfl (D_load (g := qJ) Tryz.isAgg56 Tryz.sizeOf56 rfl nQ fun nU oQ => ?_)
    refine EL_p (.int .i64 (((x0).Rows).length : Int)) (P_len Tryz.underlying56 rfl oQ) rfl ?_
    refine EL_p (.bool ((decide (g8 < (((x0).Rows).length : Int))))) (P_int rfl rfl rfl) rfl ?_
    refine EL_nil (thn_n ?_)
    rcases csome h with ⟨bG, h⟩ | ⟨bG, h⟩
    ·refine E_ct bG rfl ?_
     exact E_skip (thn_n (xO () _ _ ⟨qJ, hfr, rE, mB, gH⟩ h))
    ·refine E_cf bG rfl ?_
     refine E_exit ?_
     refine thn_e ?_
     refine thn_e ?_
     refine blk_hit ?_
     exact thn_n (uO () _ _ ⟨qJ, hfr, rE, mB⟩ h)
   ·rintro _ sT oU ⟨rJ, hfr, iH, sE, jH⟩ h
    refine E_joinC h (fun (s : Unit) e w => ∃ (g : Gh) , Fr gI wI g w ∧ e 1 = p1 ∧ PT g.m w (x0 : PayTable) p1 ∧ e 3 = .int .i64 (g8)) (fun X51 pO yO h => ?_) ?_
    ·refine E_block ?_
     refine E_seq (E_region (EL_p (fPtr p1 0) (P_fieldAddr at_58_0 iH (PT.ptr sE)) rfl ?_))
     have pQ := PT_field (part_PayTable_0).1 sE
     refine EL_do .plain rfl (D_load (g := rJ) Tryz.isAgg56 Tryz.sizeOf56 rfl pQ fun qQ rO => ?_)
     refine EL_mv jH rfl ?_
     obtain ⟨dH, sJ, h⟩ := bsome h
     refine EL_p (ePtr qQ g8 1) (P_indexAddr (α := List Int) Tryz.underlying56 Tryz.sizeOf23 rfl rO rfl sJ) rfl ?_
     have rQ := PT_idx rO sJ
     refine EL_do .plain rfl (D_load (g := rJ) Tryz.isAgg23 Tryz.sizeOf23 rfl rQ fun pU sQ => ?_)
     refine EL_p (.int .i64 ((dH).length : Int)) (P_len Tryz.underlying23 rfl sQ) rfl ?_
     refine EL_in (.bool ((decide (((dH).length : Int) > (6 : Int))))) rfl rfl rfl rfl ?_
     refine EL_nil (thn_n ?_)
     rcases csome h with ⟨cG, h⟩ | ⟨cG, h⟩
     ·refine E_ct cG rfl ?_
      refine E_seq (E_region (EL_at (.int .i64 (5)) rfl rfl ?_))
      refine EL_nil (thn_n (E_ret (blk_r ?_)))
      refine thn_r ?_
      refine thn_r ?_
      refine blk_r ?_
      refine thn_r ?_
      obtain rfl := sinj h
      exact end1 rfl rfl (show _ = .int .i64 (5) from rfl) ⟨_, hfr, rfl⟩
     ·refine E_cf cG rfl ?_
      exact E_skip (blk_n (thn_n (yO () _ _ ⟨rJ, hfr, iH, sE, jH⟩ h)))
    ·rintro _ tT qU ⟨tQ, hfr, zL, aM, bM⟩ h
     refine E_region (EL_mv bM rfl ?_)
     refine EL_in (.int .i64 ((w64 (g8 + (1 : Int))))) rfl rfl rfl rfl ?_
     refine EL_at (.int .i64 ((w64 (g8 + (1 : Int))))) rfl rfl ?_
     exact EL_nil (thn_n (vO ((w64 (g8 + (1 : Int)))) _ _ ⟨tQ, hfr, zL, aM, rfl⟩ h))
  ·rintro _ uT rU ⟨kH, hfr, i6, u3⟩ h
   refine E_joinC h (fun (s : Unit) e w => ∃ (g : Gh) , Fr gI wI g w ∧ e 1 = p1 ∧ PT g.m w (x0 : PayTable) p1) (fun X377 pJ cM h => ?_) ?_
   ·obtain ⟨m8, hx, h⟩ := bsome h
    refine E_join (fun e w => ∃ (g : Gh) , Fr gI wI g w ∧ e 1 = p1 ∧ PT g.m w (x0 : PayTable) p1 ∧ e 58 = .bool (m8)) (fun Q' hQ => ?_) (fun rR xT hR => ?_)
    ·replace h := hx
     clear hx
     have zO := PT_field (part_PayTable_0).1 u3
     refine L_load (x := .tmp 27) Tryz.isAgg56 Tryz.sizeOf56 zO fun tE uE nB => ?_
     rcases csome h with ⟨l5, h⟩ | ⟨l5, h⟩
     ·refine E_drawL (g := kH) (n := 32) [] [0, 1, 2, 3, 4, 5, 6, 7, 8, 9, 10, 11, 12, 13, 14, 15, 16, 17, 18, 19, 20, 21, 22, 23, 24, 25, 26, 27, 28, 29, 30, 31] rfl mixed (by kernel_rfl) trivial ?_
      refine L_p (fPtr p1 0) rfl rfl (P_fieldAddr at_58_0 i6 (PT.ptr u3)) ?_
      refine L_ld (c := tE) rfl rfl .plain (fun _ _ h => h.ch) nB rfl ?_
      refine L_p (.int .i64 (((x0).Rows).length : Int)) rfl rfl (P_len Tryz.underlying56 rfl uE) ?_
      refine L_p (.bool (((((x0).Rows).length : Int) == (0 : Int)))) rfl rfl (P_int rfl rfl rfl) ?_
      refine L_p (.bool (((((x0).Rows).length : Int) == (0 : Int)))) rfl rfl (P_move rfl) ?_
      iterate 6 refine L_s rfl rfl rfl l5 rfl ?_
      refine L_p (.bool true) rfl rfl (P_pick (b := ((((x0).Rows).length : Int) == (0 : Int))) rfl (pick_t l5 rfl)) ?_
      refine L_dead (fun _ => rfl) 20 rfl ?_
      refine L_nl fun aP yT hs => ?_
      have hfr := hfr.ext hs
      have u3 := u3.ext hs
      clear hs
      refine EL_nil ?_
      obtain rfl := sinj h
      exact hQ _ _ ⟨aP, hfr, i6, u3, rfl⟩
     ·have bP := PT_field (part_PayTable_0).1 u3
      refine L_load (x := .tmp 32) Tryz.isAgg56 Tryz.sizeOf56 bP fun bA vE xE => ?_
      obtain ⟨d7, oB, h⟩ := bsome h
      have cP := PT_idx vE oB
      refine L_load (x := .tmp 34) Tryz.isAgg23 Tryz.sizeOf23 cP fun eG gG yE => ?_
      rcases csome h with ⟨x5, h⟩ | ⟨x5, h⟩
      ·refine E_drawL (g := kH) (n := 32) [] [0, 1, 2, 3, 4, 5, 6, 7, 8, 9, 10, 11, 12, 13, 14, 15, 16, 17, 18, 19, 20, 21, 22, 23, 24, 25, 26, 27, 28, 29, 30, 31] rfl mixed (by kernel_rfl) trivial ?_
       refine L_p (fPtr p1 0) rfl rfl (P_fieldAddr at_58_0 i6 (PT.ptr u3)) ?_
       refine L_ld (c := tE) rfl rfl .plain (fun _ _ h => h.ch) nB rfl ?_
       refine L_p (.int .i64 (((x0).Rows).length : Int)) rfl rfl (P_len Tryz.underlying56 rfl uE) ?_
       refine L_p (.bool (((((x0).Rows).length : Int) == (0 : Int)))) rfl rfl (P_int rfl rfl rfl) ?_
       refine L_p (.bool (((((x0).Rows).length : Int) == (0 : Int)))) rfl rfl (P_move rfl) ?_
       refine L_y (fPtr p1 0) rfl rfl rfl rfl l5 (P_fieldAddr at_58_0 i6 (PT.ptr u3)) ?_
       refine L_ld (c := bA) rfl rfl (.yes2 rfl rfl l5) (fun _ _ h => h.ch) xE rfl ?_
       refine L_y (ePtr bA (0 : Int) 1) rfl rfl rfl rfl l5 (P_indexAddr (α := List Int) Tryz.underlying56 Tryz.sizeOf23 rfl vE rfl oB) ?_
       refine L_ld (c := eG) rfl rfl (.yes2 rfl rfl l5) (fun _ _ h => h.ch) yE rfl ?_
       refine L_y (.int .i64 ((d7).length : Int)) rfl rfl rfl rfl l5 (P_len Tryz.underlying23 rfl gG) ?_
       refine L_y (.bool ((((d7).length : Int) == (0 : Int)))) rfl rfl rfl rfl l5 (P_int rfl rfl rfl) ?_
       refine L_p (.bool ((((d7).length : Int) == (0 : Int)))) rfl rfl (P_pick (b := ((((x0).Rows).length : Int) == (0 : Int))) rfl (pick_f l5 rfl)) ?_
       refine L_p (.bool ((((d7).length : Int) == (0 : Int)))) rfl rfl (P_move rfl) ?_
       iterate 7 refine L_s rfl rfl rfl x5 rfl ?_
       refine L_p (.bool true) rfl rfl (P_pick (b := (((d7).length : Int) == (0 : Int))) rfl (pick_t x5 rfl)) ?_
       refine L_dead (fun _ => rfl) 11 rfl ?_
       refine L_nl fun dP zT hs => ?_
       have hfr := hfr.ext hs
       have u3 := u3.ext hs
       clear hs
       refine EL_nil ?_
       obtain rfl := sinj h
       exact hQ _ _ ⟨dP, hfr, i6, u3, rfl⟩
      ·have eP := PT_field (part_PayTable_1).1 u3
       refine L_load (x := .tmp 40) Tryz.isAgg23 Tryz.sizeOf23 eP fun vJ xJ lH => ?_
       have gP := PT_field (part_PayTable_0).1 u3
       refine L_load (x := .tmp 43) Tryz.isAgg56 Tryz.sizeOf56 gP fun yJ zJ mH => ?_
       rcases csome h with ⟨i7, h⟩ | ⟨i7, h⟩
       ·refine E_drawL (g := kH) (n := 32) [] [0, 1, 2, 3, 4, 5, 6, 7, 8, 9, 10, 11, 12, 13, 14, 15, 16, 17, 18, 19, 20, 21, 22, 23, 24, 25, 26, 27, 28, 29, 30, 31] rfl mixed (by kernel_rfl) trivial ?_
        refine L_p (fPtr p1 0) rfl rfl (P_fieldAddr at_58_0 i6 (PT.ptr u3)) ?_
        refine L_ld (c := tE) rfl rfl .plain (fun _ _ h => h.ch) nB rfl ?_
        refine L_p (.int .i64 (((x0).Rows).length : Int)) rfl rfl (P_len Tryz.underlying56 rfl uE) ?_
        refine L_p (.bool (((((x0).Rows).length : Int) == (0 : Int)))) rfl rfl (P_int rfl rfl rfl) ?_
        refine L_p (.bool (((((x0).Rows).length : Int) == (0 : Int)))) rfl rfl (P_move rfl) ?_
        refine L_y (fPtr p1 0) rfl rfl rfl rfl l5 (P_fieldAddr at_58_0 i6 (PT.ptr u3)) ?_
        refine L_ld (c := bA) rfl rfl (.yes2 rfl rfl l5) (fun _ _ h => h.ch) xE rfl ?_
        refine L_y (ePtr bA (0 : Int) 1) rfl rfl rfl rfl l5 (P_indexAddr (α := List Int) Tryz.underlying56 Tryz.sizeOf23 rfl vE rfl oB) ?_
        refine L_ld (c := eG) rfl rfl (.yes2 rfl rfl l5) (fun _ _ h => h.ch) yE rfl ?_
        refine L_y (.int .i64 ((d7).length : Int)) rfl rfl rfl rfl l5 (P_len Tryz.underlying23 rfl gG) ?_
        refine L_y (.bool ((((d7).length : Int) == (0 : Int)))) rfl rfl rfl rfl l5 (P_int rfl rfl rfl) ?_
        refine L_p (.bool ((((d7).length : Int) == (0 : Int)))) rfl rfl (P_pick (b := ((((x0).Rows).length : Int) == (0 : Int))) rfl (pick_f l5 rfl)) ?_
        refine L_p (.bool ((((d7).length : Int) == (0 : Int)))) rfl rfl (P_move rfl) ?_
        refine L_y (fPtr p1 1) rfl rfl rfl rfl x5 (P_fieldAddr at_58_1 i6 (PT.ptr u3)) ?_
        refine L_ld (c := vJ) rfl rfl (.yes2 rfl rfl x5) (fun _ _ h => h.ch) lH rfl ?_
        refine L_y (.int .i64 (((x0).Across).length : Int)) rfl rfl rfl rfl x5 (P_len Tryz.underlying23 rfl xJ) ?_
        refine L_y (fPtr p1 0) rfl rfl rfl rfl x5 (P_fieldAddr at_58_0 i6 (PT.ptr u3)) ?_
        refine L_ld (c := yJ) rfl rfl (.yes2 rfl rfl x5) (fun _ _ h => h.ch) mH rfl ?_
        refine L_y (.int .i64 (((x0).Rows).length : Int)) rfl rfl rfl rfl x5 (P_len Tryz.underlying56 rfl zJ) ?_
        refine L_y (.bool (((((x0).Across).length : Int) != (((x0).Rows).length : Int)))) rfl rfl rfl rfl x5 (P_int rfl rfl rfl) ?_
        refine L_p (.bool (((((x0).Across).length : Int) != (((x0).Rows).length : Int)))) rfl rfl (P_pick (b := (((d7).length : Int) == (0 : Int))) rfl (pick_f x5 rfl)) ?_
        refine L_p (.bool (((((x0).Across).length : Int) != (((x0).Rows).length : Int)))) rfl rfl (P_move rfl) ?_
        iterate 9 refine L_s rfl rfl rfl i7 rfl ?_
        refine L_p (.bool true) rfl rfl (P_pick (b := ((((x0).Across).length : Int) != (((x0).Rows).length : Int))) rfl (pick_t i7 rfl)) ?_
        refine L_nl fun iP aU hs => ?_
        have hfr := hfr.ext hs
        have u3 := u3.ext hs
        clear hs
        refine EL_nil ?_
        obtain rfl := sinj h
        exact hQ _ _ ⟨iP, hfr, i6, u3, rfl⟩
       ·have jP := PT_field (part_PayTable_2).1 u3
        refine L_load (x := .tmp 49) Tryz.isAgg23 Tryz.sizeOf23 jP fun kP lP dM => ?_
        have mP := PT_field (part_PayTable_0).1 u3
        refine L_load (x := .tmp 52) Tryz.isAgg56 Tryz.sizeOf56 mP fun aK bK eM => ?_
        obtain ⟨yB, nH, h⟩ := bsome h
        have nP := PT_idx bK nH
        refine L_load (x := .tmp 54) Tryz.isAgg23 Tryz.sizeOf23 nP fun oP pP iM => ?_
        refine E_drawL (g := kH) (n := 32) [] [0, 1, 2, 3, 4, 5, 6, 7, 8, 9, 10, 11, 12, 13, 14, 15, 16, 17, 18, 19, 20, 21, 22, 23, 24, 25, 26, 27, 28, 29, 30, 31] rfl mixed (by kernel_rfl) trivial ?_
        refine L_p (fPtr p1 0) rfl rfl (P_fieldAddr at_58_0 i6 (PT.ptr u3)) ?_
        refine L_ld (c := tE) rfl rfl .plain (fun _ _ h => h.ch) nB rfl ?_
        refine L_p (.int .i64 (((x0).Rows).length : Int)) rfl rfl (P_len Tryz.underlying56 rfl uE) ?_
        refine L_p (.bool (((((x0).Rows).length : Int) == (0 : Int)))) rfl rfl (P_int rfl rfl rfl) ?_
        refine L_p (.bool (((((x0).Rows).length : Int) == (0 : Int)))) rfl rfl (P_move rfl) ?_
        refine L_y (fPtr p1 0) rfl rfl rfl rfl l5 (P_fieldAddr at_58_0 i6 (PT.ptr u3)) ?_
        refine L_ld (c := bA) rfl rfl (.yes2 rfl rfl l5) (fun _ _ h => h.ch) xE rfl ?_
        refine L_y (ePtr bA (0 : Int) 1) rfl rfl rfl rfl l5 (P_indexAddr (α := List Int) Tryz.underlying56 Tryz.sizeOf23 rfl vE rfl oB) ?_
        refine L_ld (c := eG) rfl rfl (.yes2 rfl rfl l5) (fun _ _ h => h.ch) yE rfl ?_
        refine L_y (.int .i64 ((d7).length : Int)) rfl rfl rfl rfl l5 (P_len Tryz.underlying23 rfl gG) ?_
        refine L_y (.bool ((((d7).length : Int) == (0 : Int)))) rfl rfl rfl rfl l5 (P_int rfl rfl rfl) ?_
        refine L_p (.bool ((((d7).length : Int) == (0 : Int)))) rfl rfl (P_pick (b := ((((x0).Rows).length : Int) == (0 : Int))) rfl (pick_f l5 rfl)) ?_
        refine L_p (.bool ((((d7).length : Int) == (0 : Int)))) rfl rfl (P_move rfl) ?_
        refine L_y (fPtr p1 1) rfl rfl rfl rfl x5 (P_fieldAddr at_58_1 i6 (PT.ptr u3)) ?_
        refine L_ld (c := vJ) rfl rfl (.yes2 rfl rfl x5) (fun _ _ h => h.ch) lH rfl ?_
        refine L_y (.int .i64 (((x0).Across).length : Int)) rfl rfl rfl rfl x5 (P_len Tryz.underlying23 rfl xJ) ?_
        refine L_y (fPtr p1 0) rfl rfl rfl rfl x5 (P_fieldAddr at_58_0 i6 (PT.ptr u3)) ?_
        refine L_ld (c := yJ) rfl rfl (.yes2 rfl rfl x5) (fun _ _ h => h.ch) mH rfl ?_
        refine L_y (.int .i64 (((x0).Rows).length : Int)) rfl rfl rfl rfl x5 (P_len Tryz.underlying56 rfl zJ) ?_
        refine L_y (.bool (((((x0).Across).length : Int) != (((x0).Rows).length : Int)))) rfl rfl rfl rfl x5 (P_int rfl rfl rfl) ?_
        refine L_p (.bool (((((x0).Across).length : Int) != (((x0).Rows).length : Int)))) rfl rfl (P_pick (b := (((d7).length : Int) == (0 : Int))) rfl (pick_f x5 rfl)) ?_
        refine L_p (.bool (((((x0).Across).length : Int) != (((x0).Rows).length : Int)))) rfl rfl (P_move rfl) ?_
        refine L_y (fPtr p1 2) rfl rfl rfl rfl i7 (P_fieldAddr at_58_2 i6 (PT.ptr u3)) ?_
        refine L_ld (c := kP) rfl rfl (.yes2 rfl rfl i7) (fun _ _ h => h.ch) dM rfl ?_
        refine L_y (.int .i64 (((x0).Down).length : Int)) rfl rfl rfl rfl i7 (P_len Tryz.underlying23 rfl lP) ?_
        refine L_y (fPtr p1 0) rfl rfl rfl rfl i7 (P_fieldAddr at_58_0 i6 (PT.ptr u3)) ?_
        refine L_ld (c := aK) rfl rfl (.yes2 rfl rfl i7) (fun _ _ h => h.ch) eM rfl ?_
        refine L_y (ePtr aK (0 : Int) 1) rfl rfl rfl rfl i7 (P_indexAddr (α := List Int) Tryz.underlying56 Tryz.sizeOf23 rfl bK rfl nH) ?_
        refine L_ld (c := oP) rfl rfl (.yes2 rfl rfl i7) (fun _ _ h => h.ch) iM rfl ?_
        refine L_y (.int .i64 ((yB).length : Int)) rfl rfl rfl rfl i7 (P_len Tryz.underlying23 rfl pP) ?_
        refine L_y (.bool (((((x0).Down).length : Int) != ((yB).length : Int)))) rfl rfl rfl rfl i7 (P_int rfl rfl rfl) ?_
        refine L_p (.bool (((((x0).Down).length : Int) != ((yB).length : Int)))) rfl rfl (P_pick (b := ((((x0).Across).length : Int) != (((x0).Rows).length : Int))) rfl (pick_f i7 rfl)) ?_
        refine L_nl fun sP bU hs => ?_
        have hfr := hfr.ext hs
        have u3 := u3.ext hs
        clear hs
        refine EL_nil ?_
        obtain rfl := sinj h
        exact hQ _ _ ⟨sP, hfr, i6, u3, rfl⟩
    ·clear hx
     obtain ⟨tP, hfr, cK, dK, eD⟩ := hR
     rcases csome h with ⟨zE, h⟩ | ⟨zE, h⟩
     ·refine E_cond_true (Eq.trans (show ev _ _ = .bool (m8) from eD) (congrArg Value.bool zE)) ?_
      refine E_seq (E_region (EL_at (.int .i64 (4)) rfl rfl ?_))
      refine EL_nil (thn_n (E_ret (thn_r ?_)))
      obtain rfl := sinj h
      exact end1 rfl rfl (show _ = .int .i64 (4) from rfl) ⟨_, hfr, rfl⟩
     ·refine E_cond_false (Eq.trans (show ev _ _ = .bool (m8) from eD) (congrArg Value.bool zE)) ?_
      exact E_skip (thn_n (cM () _ _ ⟨tP, hfr, cK, dK⟩ h))
   ·rintro _ tR cU ⟨uP, hfr, lK, mK⟩ h
    refine E_seq (E_region (EL_at (.int .i64 (0)) rfl rfl ?_))
    refine EL_nil (thn_n (E_joinC h (fun (s : Unit) e w => ∃ (g : Gh) , Fr gI wI g w ∧ e 1 = p1 ∧ PT g.m w (x0 : PayTable) p1 ∧ e 4 = .int .i64 ((0 : Int))) (fun X761 lJ jM h => ?_) ?_))
    ·refine E_seq (E_region (EL_at (.int .i64 (0)) rfl rfl ?_))
     refine EL_nil (thn_n (E_block ?_))
     refine E_lp h (fun (s : Int) e w => ∃ (g : Gh) , Fr gI wI g w ∧ e 1 = p1 ∧ PT g.m w (x0 : PayTable) p1 ∧ e 4 = .int .i64 ((0 : Int)) ∧ e 5 = .int .i64 (s)) ⟨uP, hfr, lK, mK, rfl, rfl⟩ (fun X762 mJ kM => ?_)
     rintro y6 uR dU ⟨hG, hfr, zB, l9, pF, qF⟩ h
     refine E_joinC h (fun (s : Unit) e w => ∃ (g : Gh) , Fr gI wI g w ∧ e 1 = p1 ∧ PT g.m w (x0 : PayTable) p1 ∧ e 4 = .int .i64 ((0 : Int)) ∧ e 5 = .int .i64 (y6)) (fun X767 oJ mM h => ?_) ?_
     ·refine E_seq (E_region (EL_mv qF rfl ?_))
      refine EL_p (fPtr p1 0) (P_fieldAddr at_58_0 zB (PT.ptr l9)) rfl ?_
      have vP := PT_field (part_PayTable_0).1 l9
      refine EL_do .plain rfl (D_load (g := hG) Tryz.isAgg56 Tryz.sizeOf56 rfl vP fun eU xP => ?_)
      refine EL_p (.int .i64 (((x0).Rows).length : Int)) (P_len Tryz.underlying56 rfl xP) rfl ?_
      refine EL_p (.bool ((decide (y6 < (((x0).Rows).length : Int))))) (P_int rfl rfl rfl) rfl ?_
      refine EL_nil (thn_n ?_)
      rcases csome h with ⟨cF, h⟩ | ⟨cF, h⟩
      ·refine E_ct cF rfl ?_
       exact E_skip (thn_n (mM () _ _ ⟨hG, hfr, zB, l9, pF, qF⟩ h))
      ·refine E_cf cF rfl ?_
       refine E_exit ?_
       refine thn_e ?_
       refine thn_e ?_
       refine blk_hit ?_
       exact thn_n (jM () _ _ ⟨hG, hfr, zB, l9, pF⟩ h)
     ·rintro _ vR gU ⟨yP, hfr, cC, k8, nK, rF⟩ h
      refine E_joinC h (fun (s : Unit) e w => ∃ (g : Gh) , Fr gI wI g w ∧ e 1 = p1 ∧ PT g.m w (x0 : PayTable) p1 ∧ e 4 = .int .i64 ((0 : Int)) ∧ e 5 = .int .i64 (y6)) (fun X799 nJ nM h => ?_) ?_
      ·refine E_block ?_
       refine E_seq ?_
       have zP := PT_field (part_PayTable_0).1 k8
       refine L_load (x := .tmp 66) Tryz.isAgg56 Tryz.sizeOf56 zP fun oK pK oM => ?_
       obtain ⟨nE, oH, h⟩ := bsome h
       have bQ := PT_idx pK oH
       refine L_load (x := .tmp 69) Tryz.isAgg23 Tryz.sizeOf23 bQ fun cQ dQ pM => ?_
       have eQ := PT_field (part_PayTable_0).1 k8
       refine L_load (x := .tmp 72) Tryz.isAgg56 Tryz.sizeOf56 eQ fun qK sK qM => ?_
       obtain ⟨oE, pH, h⟩ := bsome h
       have gQ := PT_idx sK pH
       refine L_load (x := .tmp 74) Tryz.isAgg23 Tryz.sizeOf23 gQ fun iQ jQ rM => ?_
       refine E_drawL (g := yP) (n := 12) [] [0, 1, 2, 3, 4, 5, 6, 7, 8, 9, 10, 11] rfl mixed (by kernel_rfl) trivial ?_
       refine L_p (fPtr p1 0) rfl rfl (P_fieldAddr at_58_0 cC (PT.ptr k8)) ?_
       refine L_ld (c := oK) rfl rfl .plain (fun _ _ h => h.ch) oM rfl ?_
       refine L_p (.int .i64 (y6)) rfl rfl (P_move rF) ?_
       refine L_p (ePtr oK y6 1) rfl rfl (P_indexAddr (α := List Int) Tryz.underlying56 Tryz.sizeOf23 rfl pK rfl oH) ?_
       refine L_ld (c := cQ) rfl rfl .plain (fun _ _ h => h.ch) pM rfl ?_
       refine L_p (.int .i64 ((nE).length : Int)) rfl rfl (P_len Tryz.underlying23 rfl dQ) ?_
       refine L_p (fPtr p1 0) rfl rfl (P_fieldAddr at_58_0 cC (PT.ptr k8)) ?_
       refine L_ld (c := qK) rfl rfl .plain (fun _ _ h => h.ch) qM rfl ?_
       refine L_p (ePtr qK (0 : Int) 1) rfl rfl (P_indexAddr (α := List Int) Tryz.underlying56 Tryz.sizeOf23 rfl sK rfl pH) ?_
       refine L_ld (c := iQ) rfl rfl .plain (fun _ _ h => h.ch) rM rfl ?_
       refine L_p (.int .i64 ((oE).length : Int)) rfl rfl (P_len Tryz.underlying23 rfl jQ) ?_
       refine L_p (.bool ((((nE).length : Int) != ((oE).length : Int)))) rfl rfl (P_int rfl rfl rfl) ?_
       refine L_nl fun kQ iU hs => ?_
       have hfr := hfr.ext hs
       have k8 := k8.ext hs
       clear hs
       refine EL_nil (thn_n ?_)
       rcases csome h with ⟨dF, h⟩ | ⟨dF, h⟩
       ·refine E_ct dF rfl ?_
        refine E_seq (E_region (EL_at (.int .i64 (4)) rfl rfl ?_))
        refine EL_nil (thn_n (E_ret (blk_r ?_)))
        refine thn_r ?_
        refine thn_r ?_
        refine blk_r ?_
        refine thn_r ?_
        obtain rfl := sinj h
        exact end1 rfl rfl (show _ = .int .i64 (4) from rfl) ⟨_, hfr, rfl⟩
       ·refine E_cf dF rfl ?_
        exact E_skip (blk_n (thn_n (nM () _ _ ⟨kQ, hfr, cC, k8, nK, rF⟩ h)))
      ·rintro _ xR jU ⟨lQ, hfr, tK, uK, vK, xK⟩ h
       refine E_region (EL_mv xK rfl ?_)
       refine EL_in (.int .i64 ((w64 (y6 + (1 : Int))))) rfl rfl rfl rfl ?_
       refine EL_at (.int .i64 ((w64 (y6 + (1 : Int))))) rfl rfl ?_
       exact EL_nil (thn_n (kM ((w64 (y6 + (1 : Int)))) _ _ ⟨lQ, hfr, tK, uK, vK, rfl⟩ h))
    ·rintro _ yR kU ⟨mQ, hfr, yK, zK, aL⟩ h
     refine E_joinC h (fun (s : Int) e w => ∃ (g : Gh) , Fr gI wI g w ∧ e 1 = p1 ∧ PT g.m w (x0 : PayTable) p1 ∧ e 4 = .int .i64 (s)) (fun X1197 oG bL h => ?_) ?_
     ·refine E_seq (E_region (EL_at (.int .i64 (0)) rfl rfl ?_))
      refine EL_nil (thn_n (E_block ?_))
      refine E_lp h (fun (s : Int × Int) e w => ∃ (g : Gh) , Fr gI wI g w ∧ e 1 = p1 ∧ PT g.m w (x0 : PayTable) p1 ∧ e 4 = .int .i64 (s.1) ∧ e 6 = .int .i64 (s.2)) ⟨mQ, hfr, yK, zK, aL, rfl⟩ (fun X1198 sG dL => ?_)
      rintro ⟨l8, o0⟩ uQ zR ⟨eF, hfr, iA, x8, gD, iD⟩ h
      refine E_joinC h (fun (s : Unit) e w => ∃ (g : Gh) , Fr gI wI g w ∧ e 1 = p1 ∧ PT g.m w (x0 : PayTable) p1 ∧ e 4 = .int .i64 (l8) ∧ e 6 = .int .i64 (o0)) (fun X1203 cH eL h => ?_) ?_
      ·refine E_seq (E_region (EL_mv iD rfl ?_))
       refine EL_p (fPtr p1 0) (P_fieldAddr at_58_0 iA (PT.ptr x8)) rfl ?_
       have sM := PT_field (part_PayTable_0).1 x8
       refine EL_do .plain rfl (D_load (g := eF) Tryz.isAgg56 Tryz.sizeOf56 rfl sM fun aS tM => ?_)
       refine EL_p (.int .i64 (((x0).Rows).length : Int)) (P_len Tryz.underlying56 rfl tM) rfl ?_
       refine EL_p (.bool ((decide (o0 < (((x0).Rows).length : Int))))) (P_int rfl rfl rfl) rfl ?_
       refine EL_nil (thn_n ?_)
       rcases csome h with ⟨eC, h⟩ | ⟨eC, h⟩
       ·refine E_ct eC rfl ?_
        exact E_skip (thn_n (eL () _ _ ⟨eF, hfr, iA, x8, gD, iD⟩ h))
       ·refine E_cf eC rfl ?_
        refine E_exit ?_
        refine thn_e ?_
        refine thn_e ?_
        refine blk_hit ?_
        exact thn_n (bL (l8) _ _ ⟨eF, hfr, iA, x8, gD⟩ h)
      ·rintro _ vQ bS ⟨uM, hfr, bI, dI, iI, jI⟩ h
       refine E_joinC h (fun (s : Int) e w => ∃ (g : Gh) , Fr gI wI g w ∧ e 1 = p1 ∧ PT g.m w (x0 : PayTable) p1 ∧ e 4 = .int .i64 (s) ∧ e 6 = .int .i64 (o0)) (fun X1386 tG gL h => ?_) ?_
       ·refine E_block ?_
        refine E_joinC h (fun (s : Int) e w => ∃ (g : Gh) , Fr gI wI g w ∧ e 1 = p1 ∧ PT g.m w (x0 : PayTable) p1 ∧ e 4 = .int .i64 (s) ∧ e 6 = .int .i64 (o0)) (fun X1471 uG iL h => ?_) ?_
        ·refine E_seq (E_region (EL_at (.int .i64 (0)) rfl rfl ?_))
         refine EL_nil (thn_n (E_block ?_))
         refine E_lp h (fun (s : Int × Int) e w => ∃ (g : Gh) , Fr gI wI g w ∧ e 1 = p1 ∧ PT g.m w (x0 : PayTable) p1 ∧ e 4 = .int .i64 (s.1) ∧ e 6 = .int .i64 (o0) ∧ e 7 = .int .i64 (s.2)) ⟨uM, hfr, bI, dI, iI, jI, rfl⟩ (fun X1472 vG jL => ?_)
         rintro ⟨x6, t5⟩ xQ cS ⟨tB, hfr, rA, a9, jD, yA, lD⟩ h
         refine E_joinC h (fun (s : Unit) e w => ∃ (g : Gh) , Fr gI wI g w ∧ e 1 = p1 ∧ PT g.m w (x0 : PayTable) p1 ∧ e 4 = .int .i64 (x6) ∧ e 6 = .int .i64 (o0) ∧ e 7 = .int .i64 (t5)) (fun X1480 aH lL h => ?_) ?_
         ·refine E_seq (E_region (EL_mv lD rfl ?_))
          refine EL_p (fPtr p1 0) (P_fieldAddr at_58_0 rA (PT.ptr a9)) rfl ?_
          have vM := PT_field (part_PayTable_0).1 a9
          refine EL_do .plain rfl (D_load (g := tB) Tryz.isAgg56 Tryz.sizeOf56 rfl vM fun xM qH => ?_)
          refine EL_mv yA rfl ?_
          obtain ⟨lB, sF, h⟩ := bsome h
          refine EL_p (ePtr xM o0 1) (P_indexAddr (α := List Int) Tryz.underlying56 Tryz.sizeOf23 rfl qH rfl sF) rfl ?_
          have yM := PT_idx qH sF
          refine EL_do .plain rfl (D_load (g := tB) Tryz.isAgg23 Tryz.sizeOf23 rfl yM fun dS zM => ?_)
          refine EL_p (.int .i64 ((lB).length : Int)) (P_len Tryz.underlying23 rfl zM) rfl ?_
          refine EL_in (.bool ((decide (t5 < ((lB).length : Int))))) rfl rfl rfl rfl ?_
          refine EL_nil (thn_n ?_)
          rcases csome h with ⟨mC, h⟩ | ⟨mC, h⟩
          ·refine E_ct mC rfl ?_
           exact E_skip (thn_n (lL () _ _ ⟨tB, hfr, rA, a9, jD, yA, lD⟩ h))
          ·refine E_cf mC rfl ?_
           refine E_exit ?_
           refine thn_e ?_
           refine thn_e ?_
           refine blk_hit ?_
           exact thn_n (iL (x6) _ _ ⟨tB, hfr, rA, a9, jD, yA⟩ h)
         ·rintro _ yQ eS ⟨vB, hfr, mD, n8, kI, nD, oD⟩ h
          refine E_joinC h (fun (s : Int) e w => ∃ (g : Gh) , Fr gI wI g w ∧ e 1 = p1 ∧ PT g.m w (x0 : PayTable) p1 ∧ e 4 = .int .i64 (s) ∧ e 6 = .int .i64 (o0) ∧ e 7 = .int .i64 (t5)) (fun X1521 jE tF h => ?_) ?_
          ·refine E_block ?_
           refine E_joinC h (fun (s : Unit) e w => ∃ (g : Gh) , Fr gI wI g w ∧ e 1 = p1 ∧ PT g.m w (x0 : PayTable) p1 ∧ e 4 = .int .i64 (x6) ∧ e 6 = .int .i64 (o0) ∧ e 7 = .int .i64 (t5)) (fun X1533 yG mL h => ?_) ?_
           ·refine E_seq (E_region (EL_p (fPtr p1 0) (P_fieldAddr at_58_0 mD (PT.ptr n8)) rfl ?_))
            have bN := PT_field (part_PayTable_0).1 n8
            refine EL_do .plain rfl (D_load (g := vB) Tryz.isAgg56 Tryz.sizeOf56 rfl bN fun cN sH => ?_)
            refine EL_mv nD rfl ?_
            obtain ⟨zG, uF, h⟩ := bsome h
            refine EL_p (ePtr cN o0 1) (P_indexAddr (α := List Int) Tryz.underlying56 Tryz.sizeOf23 rfl sH rfl uF) rfl ?_
            have dN := PT_idx sH uF
            refine EL_do .plain rfl (D_load (g := vB) Tryz.isAgg23 Tryz.sizeOf23 rfl dN fun eN tH => ?_)
            refine EL_mv oD rfl ?_
            obtain ⟨lE, vF, h⟩ := bsome h
            refine EL_p (ePtr eN t5 1) (P_indexAddr (α := Int) Tryz.underlying23 Tryz.sizeOf3 rfl tH rfl vF) rfl ?_
            have gN := PT_idx tH vF
            refine EL_do .plain rfl (D_load (g := vB) Tryz.isAgg3 Tryz.sizeOf3 rfl gN fun gS iN => ?_)
            obtain rfl := RV_int.1 iN
            obtain ⟨mE, nL, h⟩ := bsome h
            refine EL_do .plain rfl (D_call (g := vB) (vs := [.int .i64 (lE), .int .i64 (-1), .int .i64 (1000000)]) en25 (.cons rfl (.cons rfl (.cons rfl .nil))) (wk25  nL) fun jN zQ iS hs hr => ?_)
            have hfr := hfr.ext hs
            have n8 := n8.ext hs
            subst hr
            refine EL_p (.bool (!mE)) (P_not rfl) rfl ?_
            refine EL_nil (thn_n ?_)
            rcases csome h with ⟨qC, h⟩ | ⟨qC, h⟩
            ·refine E_ct qC rfl ?_
             refine E_seq (E_region (EL_at (.int .i64 (2)) rfl rfl ?_))
             refine EL_nil (thn_n (E_ret (thn_r ?_)))
             refine blk_r ?_
             refine thn_r ?_
             refine thn_r ?_
             refine blk_r ?_
             refine thn_r ?_
             refine blk_r ?_
             refine thn_r ?_
             refine thn_r ?_
             refine blk_r ?_
             refine thn_r ?_
             obtain rfl := sinj h
             exact end1 rfl rfl (show _ = .int .i64 (2) from rfl) ⟨_, hfr, rfl⟩
            ·refine E_cf qC rfl ?_
             exact E_skip (thn_n (mL () _ _ ⟨jN, hfr, mD, n8, kI, nD, oD⟩ h))
           ·rintro _ aR jS ⟨n9, hfr, aB, d9, sD, dB, iB⟩ h
            refine E_seq (E_region (EL_p (fPtr p1 0) (P_fieldAddr at_58_0 aB (PT.ptr d9)) rfl ?_))
            have kN := PT_field (part_PayTable_0).1 d9
            refine EL_do .plain rfl (D_load (g := n9) Tryz.isAgg56 Tryz.sizeOf56 rfl kN fun lN uH => ?_)
            refine EL_mv dB rfl ?_
            obtain ⟨xG, xF, h⟩ := bsome h
            refine EL_p (ePtr lN o0 1) (P_indexAddr (α := List Int) Tryz.underlying56 Tryz.sizeOf23 rfl uH rfl xF) rfl ?_
            have mN := PT_idx uH xF
            refine EL_do .plain rfl (D_load (g := n9) Tryz.isAgg23 Tryz.sizeOf23 rfl mN fun nN xH => ?_)
            refine EL_mv iB rfl ?_
            obtain ⟨kE, yF, h⟩ := bsome h
            refine EL_p (ePtr nN t5 1) (P_indexAddr (α := Int) Tryz.underlying23 Tryz.sizeOf3 rfl xH rfl yF) rfl ?_
            have oN := PT_idx xH yF
            refine EL_do .plain rfl (D_load (g := n9) Tryz.isAgg3 Tryz.sizeOf3 rfl oN fun lS pN => ?_)
            obtain rfl := RV_int.1 pN
            refine EL_in (.bool ((kE == (-1 : Int)))) rfl rfl rfl rfl ?_
            refine EL_nil (thn_n ?_)
            rcases csome h with ⟨rC, h⟩ | ⟨rC, h⟩
            ·refine E_ct rC rfl ?_
             refine E_region (EL_mv sD rfl ?_)
             refine EL_in (.int .i64 ((w64 (x6 + (1 : Int))))) rfl rfl rfl rfl ?_
             refine EL_at (.int .i64 ((w64 (x6 + (1 : Int))))) rfl rfl ?_
             exact EL_nil (blk_n (thn_n (tF ((w64 (x6 + (1 : Int)))) _ _ ⟨n9, hfr, aB, d9, rfl, dB, iB⟩ h)))
            ·refine E_cf rC rfl ?_
             exact E_skip (blk_n (thn_n (tF (x6) _ _ ⟨n9, hfr, aB, d9, sD, dB, iB⟩ h)))
          ·rintro z9 bR mS ⟨qN, hfr, lI, mI, nI, pI, qI⟩ h
           refine E_region (EL_mv qI rfl ?_)
           refine EL_in (.int .i64 ((w64 (t5 + (1 : Int))))) rfl rfl rfl rfl ?_
           refine EL_at (.int .i64 ((w64 (t5 + (1 : Int))))) rfl rfl ?_
           exact EL_nil (thn_n (jL (z9, (w64 (t5 + (1 : Int)))) _ _ ⟨qN, hfr, lI, mI, nI, pI, rfl⟩ h))
        ·rintro y9 cR nS ⟨iF, hfr, tD, r8, sI, uD⟩ h
         refine E_seq (E_region (EL_p (fPtr p1 1) (P_fieldAddr at_58_1 tD (PT.ptr r8)) rfl ?_))
         have rN := PT_field (part_PayTable_1).1 r8
         refine EL_do .plain rfl (D_load (g := iF) Tryz.isAgg23 Tryz.sizeOf23 rfl rN fun sN yH => ?_)
         refine EL_mv uD rfl ?_
         obtain ⟨eE, zF, h⟩ := bsome h
         refine EL_p (ePtr sN o0 1) (P_indexAddr (α := Int) Tryz.underlying23 Tryz.sizeOf3 rfl yH rfl zF) rfl ?_
         have tN := PT_idx yH zF
         refine EL_do .plain rfl (D_load (g := iF) Tryz.isAgg3 Tryz.sizeOf3 rfl tN fun oS uN => ?_)
         obtain rfl := RV_int.1 uN
         obtain ⟨iE, oL, h⟩ := bsome h
         refine EL_do .plain rfl (D_call (g := iF) (vs := [.int .i64 (eE), .int .i64 (0), .int .i64 (1000000000)]) en25 (.cons rfl (.cons rfl (.cons rfl .nil))) (wk25  oL) fun vN dR pS hs hr => ?_)
         have hfr := hfr.ext hs
         have r8 := r8.ext hs
         subst hr
         refine EL_p (.bool (!iE)) (P_not rfl) rfl ?_
         refine EL_nil (thn_n ?_)
         rcases csome h with ⟨uC, h⟩ | ⟨uC, h⟩
         ·refine E_ct uC rfl ?_
          refine E_seq (E_region (EL_at (.int .i64 (2)) rfl rfl ?_))
          refine EL_nil (thn_n (E_ret (blk_r ?_)))
          refine thn_r ?_
          refine thn_r ?_
          refine blk_r ?_
          refine thn_r ?_
          obtain rfl := sinj h
          exact end1 rfl rfl (show _ = .int .i64 (2) from rfl) ⟨_, hfr, rfl⟩
         ·refine E_cf uC rfl ?_
          exact E_skip (blk_n (thn_n (gL (y9) _ _ ⟨vN, hfr, tD, r8, sI, uD⟩ h)))
       ·rintro u9 eR qS ⟨xN, hfr, tI, uI, vI, xI⟩ h
        refine E_region (EL_mv xI rfl ?_)
        refine EL_in (.int .i64 ((w64 (o0 + (1 : Int))))) rfl rfl rfl rfl ?_
        refine EL_at (.int .i64 ((w64 (o0 + (1 : Int))))) rfl rfl ?_
        exact EL_nil (thn_n (dL (u9, (w64 (o0 + (1 : Int)))) _ _ ⟨xN, hfr, tI, uI, vI, rfl⟩ h))
     ·rintro m7 gR rS ⟨yN, hfr, yI, zI, aJ⟩ h
      refine E_joinC h (fun (s : Unit) e w => ∃ (g : Gh) , Fr gI wI g w ∧ e 1 = p1 ∧ PT g.m w (x0 : PayTable) p1 ∧ e 4 = .int .i64 (m7)) (fun X1595 kG pL h => ?_) ?_
      ·refine E_seq (E_region (EL_at (.int .i64 (0)) rfl rfl ?_))
       refine EL_nil (thn_n (E_block ?_))
       refine E_lp h (fun (s : Int) e w => ∃ (g : Gh) , Fr gI wI g w ∧ e 1 = p1 ∧ PT g.m w (x0 : PayTable) p1 ∧ e 4 = .int .i64 (m7) ∧ e 8 = .int .i64 (s)) ⟨yN, hfr, yI, zI, aJ, rfl⟩ (fun X1596 lG qL => ?_)
       rintro j6 iR sS ⟨nF, hfr, jB, k9, vD, xD⟩ h
       refine E_joinC h (fun (s : Unit) e w => ∃ (g : Gh) , Fr gI wI g w ∧ e 1 = p1 ∧ PT g.m w (x0 : PayTable) p1 ∧ e 4 = .int .i64 (m7) ∧ e 8 = .int .i64 (j6)) (fun X1601 nG rL h => ?_) ?_
       ·refine E_seq (E_region (EL_mv xD rfl ?_))
        refine EL_p (fPtr p1 2) (P_fieldAddr at_58_2 jB (PT.ptr k9)) rfl ?_
        have zN := PT_field (part_PayTable_2).1 k9
        refine EL_do .plain rfl (D_load (g := nF) Tryz.isAgg23 Tryz.sizeOf23 rfl zN fun tS aO => ?_)
        refine EL_p (.int .i64 (((x0).Down).length : Int)) (P_len Tryz.underlying23 rfl aO) rfl ?_
        refine EL_p (.bool ((decide (j6 < (((x0).Down).length : Int))))) (P_int rfl rfl rfl) rfl ?_
        refine EL_nil (thn_n ?_)
        rcases csome h with ⟨vC, h⟩ | ⟨vC, h⟩
        ·refine E_ct vC rfl ?_
         exact E_skip (thn_n (rL () _ _ ⟨nF, hfr, jB, k9, vD, xD⟩ h))
        ·refine E_cf vC rfl ?_
         refine E_exit ?_
         refine thn_e ?_
         refine thn_e ?_
         refine blk_hit ?_
         exact thn_n (pL () _ _ ⟨nF, hfr, jB, k9, vD⟩ h)
       ·rintro _ jR uS ⟨oF, hfr, yD, v8, bJ, zD⟩ h
        refine E_joinC h (fun (s : Unit) e w => ∃ (g : Gh) , Fr gI wI g w ∧ e 1 = p1 ∧ PT g.m w (x0 : PayTable) p1 ∧ e 4 = .int .i64 (m7) ∧ e 8 = .int .i64 (j6)) (fun X1614 mG tL h => ?_) ?_
        ·refine E_block ?_
         refine E_seq (E_region (EL_p (fPtr p1 2) (P_fieldAddr at_58_2 yD (PT.ptr v8)) rfl ?_))
         have bO := PT_field (part_PayTable_2).1 v8
         refine EL_do .plain rfl (D_load (g := oF) Tryz.isAgg23 Tryz.sizeOf23 rfl bO fun cO zH => ?_)
         refine EL_mv zD rfl ?_
         obtain ⟨cE, aG, h⟩ := bsome h
         refine EL_p (ePtr cO j6 1) (P_indexAddr (α := Int) Tryz.underlying23 Tryz.sizeOf3 rfl zH rfl aG) rfl ?_
         have dO := PT_idx zH aG
         refine EL_do .plain rfl (D_load (g := oF) Tryz.isAgg3 Tryz.sizeOf3 rfl dO fun vS eO => ?_)
         obtain rfl := RV_int.1 eO
         obtain ⟨dE, uL, h⟩ := bsome h
         refine EL_do .plain rfl (D_call (g := oF) (vs := [.int .i64 (cE), .int .i64 (0), .int .i64 (1000000000)]) en25 (.cons rfl (.cons rfl (.cons rfl .nil))) (wk25  uL) fun gO lR xS hs hr => ?_)
         have hfr := hfr.ext hs
         have v8 := v8.ext hs
         subst hr
         refine EL_p (.bool (!dE)) (P_not rfl) rfl ?_
         refine EL_nil (thn_n ?_)
         rcases csome h with ⟨aD, h⟩ | ⟨aD, h⟩
         ·refine E_ct aD rfl ?_
          refine E_seq (E_region (EL_at (.int .i64 (2)) rfl rfl ?_))
          refine EL_nil (thn_n (E_ret (blk_r ?_)))
          refine thn_r ?_
          refine thn_r ?_
          refine blk_r ?_
          refine thn_r ?_
          obtain rfl := sinj h
          exact end1 rfl rfl (show _ = .int .i64 (2) from rfl) ⟨_, hfr, rfl⟩
         ·refine E_cf aD rfl ?_
          exact E_skip (blk_n (thn_n (tL () _ _ ⟨gO, hfr, yD, v8, bJ, zD⟩ h)))
        ·rintro _ mR yS ⟨iO, hfr, cJ, dJ, eJ, gJ⟩ h
         refine E_region (EL_mv gJ rfl ?_)
         refine EL_in (.int .i64 ((w64 (j6 + (1 : Int))))) rfl rfl rfl rfl ?_
         refine EL_at (.int .i64 ((w64 (j6 + (1 : Int))))) rfl rfl ?_
         exact EL_nil (thn_n (qL ((w64 (j6 + (1 : Int)))) _ _ ⟨iO, hfr, cJ, dJ, eJ, rfl⟩ h))
      ·rintro _ nR zS ⟨aI, hfr, iJ, aE, jJ⟩ h
       refine E_joinC h (fun (s : Unit) e w => ∃ (g : Gh) , Fr gI wI g w ∧ e 4 = .int .i64 (m7)) (fun X1630 jG vL h => ?_) ?_
       ·refine E_seq (E_region (EL_p (fPtr p1 3) (P_fieldAddr at_58_3 iJ (PT.ptr aE)) rfl ?_))
        have jO := PT_field (part_PayTable_3).1 aE
        refine EL_do .plain rfl (D_load (g := aI) Tryz.isAgg3 Tryz.sizeOf3 rfl jO fun eT kO => ?_)
        obtain rfl := RV_int.1 kO
        obtain ⟨bE, xL, h⟩ := bsome h
        refine EL_do .plain rfl (D_call (g := aI) (vs := [.int .i64 ((x0).Total), .int .i64 (0), .int .i64 (1000000000)]) en25 (.cons rfl (.cons rfl (.cons rfl .nil))) (wk25  xL) fun lO oR lT hs hr => ?_)
        have hfr := hfr.ext hs
        subst hr
        refine EL_p (.bool (!bE)) (P_not rfl) rfl ?_
        refine EL_nil (thn_n ?_)
        rcases csome h with ⟨bD, h⟩ | ⟨bD, h⟩
        ·refine E_ct bD rfl ?_
         refine E_seq (E_region (EL_at (.int .i64 (2)) rfl rfl ?_))
         refine EL_nil (thn_n (E_ret (thn_r ?_)))
         obtain rfl := sinj h
         exact end1 rfl rfl (show _ = .int .i64 (2) from rfl) ⟨_, hfr, rfl⟩
        ·refine E_cf bD rfl ?_
         exact E_skip (thn_n (vL () _ _ ⟨lO, hfr, jJ⟩ h))
       ·rintro _ pR mT ⟨mO, hfr, kJ⟩ h
        refine E_joinC h (fun (s : Unit) e w => ∃ (g : Gh) , Fr gI wI g w) (fun X1638 iG yL h => ?_) ?_
        ·refine E_seq (E_region (EL_mv kJ rfl ?_))
         refine EL_in (.bool ((decide (m7 > (12 : Int))))) rfl rfl rfl rfl ?_
         refine EL_nil (thn_n ?_)
         rcases csome h with ⟨cD, h⟩ | ⟨cD, h⟩
         ·refine E_ct cD rfl ?_
          refine E_seq (E_region (EL_at (.int .i64 (8)) rfl rfl ?_))
          refine EL_nil (thn_n (E_ret (thn_r ?_)))
          obtain rfl := sinj h
          exact end1 rfl rfl (show _ = .int .i64 (8) from rfl) ⟨_, hfr, rfl⟩
         ·refine E_cf cD rfl ?_
          exact E_skip (thn_n (yL () _ _ ⟨mO, hfr⟩ h))
        ·rintro _ qR nT ⟨oT, hfr⟩ h
         refine E_seq (E_region (EL_at (.int .i64 (0)) rfl rfl ?_))
         refine EL_nil (thn_n (E_ret ?_))
         obtain rfl := sinj h
         exact end1 rfl rfl (show _ = .int .i64 (0) from rfl) ⟨_, hfr, rfl⟩
def f32 (x0 : PayTable) : Option ((List (Vector Int 2))) :=
 Option.bind (α := (List (Vector Int 2))) (
  lp (σ := (List (Vector Int 2)) × Int) (fun tB (x5, o0) =>
   jn (σ := Unit) (fun _ =>
    Option.bind (α := (List (Vector Int 2))) (
     lp (σ := (List (Vector Int 2)) × Int) (fun vB (t5, u3) =>
      jn (σ := Unit) (fun _ =>
       Option.bind (α := (List (Vector Int 2))) (
        (idx ((x0).Rows) o0).bind fun yB =>
        (idx yB u3).bind fun jB =>
        bif (jB == (-1 : Int)) then
         (apnd 16 t5 (([(⟨List.toArray [o0, u3], rfl⟩ : Vector Int 2)] : List (Vector Int 2)))).bind fun zB =>
         some (zB)
        else
         some (t5)
        ) fun i6 =>
       vB (i6, (w64 (u3 + (1 : Int))))
       ) fun cC =>
      (idx ((x0).Rows) o0).bind fun y165 =>
      bif (decide (u3 < ((y165).length : Int))) then
       cC ()
      else
       some (t5)
      ) big (x5, (0 : Int))
     ) fun j6 =>
    tB (j6, (w64 (o0 + (1 : Int))))
    ) fun eC =>
   bif (decide (o0 < (((x0).Rows).length : Int))) then
    eC ()
   else
    some (x5)
   ) big (([] : List (Vector Int 2)), (0 : Int))
  ) fun d7 =>
 some (d7)
theorem en32 : Enters Tryz.prog 32 := enters_of Tryz.func32 (by kernel_rfl) rfl
theorem wk32 {gI : Gh} {wI : World} {x0 : PayTable} {up0 : Value} (rp0 : RV gI.m wI x0 up0) {r : (List (Vector Int 2))} (h : f32 x0 = some r) : Fn Tryz.prog 32 #[up0] gI wI (fun m w v => RV m w (r) v) := by
 unfold f32 at h
 refine fn_of_E Tryz.func32 rfl (Nat.le_of_ble_eq_true rfl) fun g0 hm hfr => ?_
 have rp0 : RV g0.m wI x0 up0 := hm ▸ rp0
 show E _ 40 none _ _ _ _ _
 refine E_seq (E_region (EL_do .plain rfl (D_box (g := g0) rfl rp0 fun g1 w1 p1 hs q1 => ?_)))
 have hfr := hfr.ext hs
 refine EL_at (.slice none 0 0) rfl rfl ?_
 refine EL_nil (thn_n (E_seq (E_region (EL_do .plain rfl (D_buildSlice (g := g1) 3006 (xs := ([] : List (Vector Int 2))) (vs := []) Tryz.underlying62 Tryz.sizeOf65 Tryz.zeroValue65 rfl rfl .nil RVs.nil rfl rfl fun g2 w2 v2 hs o2 r2 hxt hfl => ?_)))))
 have hfr := hfr.stp hs
 have q1 := q1.stp hs
 refine EL_at v2 rfl rfl ?_
 refine EL_nil (thn_n ?_)
 obtain ⟨d7, hx, h⟩ := bsome h
 refine E_join (fun e w => ∃ (g : Gh) (v3 : Value), Fr gI wI g w ∧ e 3 = v3 ∧ RV g.m w (d7 : List (Vector Int 2)) v3 ∧ OS 3006 g w 65 (d7 : List (Vector Int 2)) v3) (fun Q' hQ => ?_) (fun xF gG hR => ?_)
 ·replace h := hx
  clear hx
  refine E_seq (E_region (EL_at (.int .i64 (0)) rfl rfl ?_))
  refine EL_nil (thn_n (E_block ?_))
  refine E_lp h (fun (s : (List (Vector Int 2)) × Int) e w => ∃ (g : Gh) (v3 : Value), Fr gI wI g w ∧ e 1 = p1 ∧ PT g.m w (x0 : PayTable) p1 ∧ e 3 = v3 ∧ RV g.m w (s.1 : List (Vector Int 2)) v3 ∧ OS 3006 g w 65 (s.1 : List (Vector Int 2)) v3 ∧ e 4 = .int .i64 (s.2)) ⟨g2, (v2), hfr, rfl, q1, rfl, r2, o2, rfl⟩ (fun X101 tB jE => ?_)
  rintro ⟨x5, o0⟩ yF hG ⟨lB, x6, hfr, n9, n8, u9, y9, z9, bA⟩ h
  refine E_joinC h (fun (s : Unit) e w => ∃ (g : Gh) , Fr gI wI g w ∧ e 1 = p1 ∧ PT g.m w (x0 : PayTable) p1 ∧ e 3 = x6 ∧ RV g.m w (x5 : List (Vector Int 2)) x6 ∧ OS 3006 g w 65 (x5 : List (Vector Int 2)) x6 ∧ e 4 = .int .i64 (o0)) (fun X106 eC kE h => ?_) ?_
  ·refine E_seq (E_region (EL_mv bA rfl ?_))
   refine EL_p (fPtr p1 0) (P_fieldAddr at_58_0 n9 (PT.ptr n8)) rfl ?_
   have rE := PT_field (part_PayTable_0).1 n8
   refine EL_do .plain rfl (D_load (g := lB) Tryz.isAgg56 Tryz.sizeOf56 rfl rE fun iG sE => ?_)
   refine EL_p (.int .i64 (((x0).Rows).length : Int)) (P_len Tryz.underlying56 rfl sE) rfl ?_
   refine EL_p (.bool ((decide (o0 < (((x0).Rows).length : Int))))) (P_int rfl rfl rfl) rfl ?_
   refine EL_nil (thn_n ?_)
   rcases csome h with ⟨a9, h⟩ | ⟨a9, h⟩
   ·refine E_ct a9 rfl ?_
    exact E_skip (thn_n (kE () _ _ ⟨lB, hfr, n9, n8, u9, y9, z9, bA⟩ h))
   ·refine E_cf a9 rfl ?_
    refine E_exit ?_
    refine thn_e ?_
    refine thn_e ?_
    refine blk_hit ?_
    obtain rfl := sinj h
    exact hQ _ _ ⟨lB, (x6), hfr, u9, y9, z9⟩
  ·rintro _ zF jG ⟨tE, hfr, mC, qC, rC, uC, vC, aD⟩ h
   obtain ⟨j6, hx, h⟩ := bsome h
   refine E_join (fun e w => ∃ (g : Gh) (v3 : Value), Fr gI wI g w ∧ e 1 = p1 ∧ PT g.m w (x0 : PayTable) p1 ∧ e 3 = v3 ∧ RV g.m w (j6 : List (Vector Int 2)) v3 ∧ OS 3006 g w 65 (j6 : List (Vector Int 2)) v3 ∧ e 4 = .int .i64 (o0)) (fun Q' hQ => ?_) (fun aG kG hR => ?_)
   ·replace h := hx
    clear hx
    refine E_block ?_
    refine E_seq (E_region (EL_at (.int .i64 (0)) rfl rfl ?_))
    refine EL_nil (thn_n (E_block ?_))
    refine E_lp h (fun (s : (List (Vector Int 2)) × Int) e w => ∃ (g : Gh) (v3 : Value), Fr gI wI g w ∧ e 1 = p1 ∧ PT g.m w (x0 : PayTable) p1 ∧ e 3 = v3 ∧ RV g.m w (s.1 : List (Vector Int 2)) v3 ∧ OS 3006 g w 65 (s.1 : List (Vector Int 2)) v3 ∧ e 4 = .int .i64 (o0) ∧ e 5 = .int .i64 (s.2)) ⟨tE, (x6), hfr, mC, qC, rC, uC, vC, aD, rfl⟩ (fun X154 vB lE => ?_)
    rintro ⟨t5, u3⟩ bG lG ⟨d9, y6, hfr, r8, i7, iA, rA, yA, v8, aB⟩ h
    refine E_joinC h (fun (s : Unit) e w => ∃ (g : Gh) , Fr gI wI g w ∧ e 1 = p1 ∧ PT g.m w (x0 : PayTable) p1 ∧ e 3 = y6 ∧ RV g.m w (t5 : List (Vector Int 2)) y6 ∧ OS 3006 g w 65 (t5 : List (Vector Int 2)) y6 ∧ e 4 = .int .i64 (o0) ∧ e 5 = .int .i64 (u3)) (fun X162 cC mE h => ?_) ?_
    ·refine E_seq (E_region (EL_mv aB rfl ?_))
     refine EL_p (fPtr p1 0) (P_fieldAddr at_58_0 r8 (PT.ptr i7)) rfl ?_
     have uE := PT_field (part_PayTable_0).1 i7
     refine EL_do .plain rfl (D_load (g := d9) Tryz.isAgg56 Tryz.sizeOf56 rfl uE fun vE bD => ?_)
     refine EL_mv v8 rfl ?_
     obtain ⟨y165, mB, h⟩ := bsome h
     refine EL_p (ePtr vE o0 1) (P_indexAddr (α := List Int) Tryz.underlying56 Tryz.sizeOf23 rfl bD rfl mB) rfl ?_
     have xE := PT_idx bD mB
     refine EL_do .plain rfl (D_load (g := d9) Tryz.isAgg23 Tryz.sizeOf23 rfl xE fun mG yE => ?_)
     refine EL_p (.int .i64 ((y165).length : Int)) (P_len Tryz.underlying23 rfl yE) rfl ?_
     refine EL_in (.bool ((decide (u3 < ((y165).length : Int))))) rfl rfl rfl rfl ?_
     refine EL_nil (thn_n ?_)
     rcases csome h with ⟨k9, h⟩ | ⟨k9, h⟩
     ·refine E_ct k9 rfl ?_
      exact E_skip (thn_n (mE () _ _ ⟨d9, hfr, r8, i7, iA, rA, yA, v8, aB⟩ h))
     ·refine E_cf k9 rfl ?_
      refine E_exit ?_
      refine thn_e ?_
      refine thn_e ?_
      refine blk_hit ?_
      refine blk_n ?_
      obtain rfl := sinj h
      exact hQ _ _ ⟨d9, (y6), hfr, r8, i7, iA, rA, yA, v8⟩
    ·rintro _ cG zE ⟨m8, hfr, x8, l5, dB, m7, g8, k8, l8⟩ h
     obtain ⟨i6, hx, h⟩ := bsome h
     refine E_join (fun e w => ∃ (g : Gh) (v3 : Value), Fr gI wI g w ∧ e 1 = p1 ∧ PT g.m w (x0 : PayTable) p1 ∧ e 3 = v3 ∧ RV g.m w (i6 : List (Vector Int 2)) v3 ∧ OS 3006 g w 65 (i6 : List (Vector Int 2)) v3 ∧ e 4 = .int .i64 (o0) ∧ e 5 = .int .i64 (u3)) (fun Q' hQ => ?_) (fun eG nG hR => ?_)
     ·replace h := hx
      clear hx
      refine E_block ?_
      refine E_seq (E_region (EL_p (fPtr p1 0) (P_fieldAddr at_58_0 x8 (PT.ptr l5)) rfl ?_))
      have cF := PT_field (part_PayTable_0).1 l5
      refine EL_do .plain rfl (D_load (g := m8) Tryz.isAgg56 Tryz.sizeOf56 rfl cF fun dF cD => ?_)
      refine EL_mv k8 rfl ?_
      obtain ⟨yB, nB, h⟩ := bsome h
      refine EL_p (ePtr dF o0 1) (P_indexAddr (α := List Int) Tryz.underlying56 Tryz.sizeOf23 rfl cD rfl nB) rfl ?_
      have eF := PT_idx cD nB
      refine EL_do .plain rfl (D_load (g := m8) Tryz.isAgg23 Tryz.sizeOf23 rfl eF fun iF eD => ?_)
      refine EL_mv l8 rfl ?_
      obtain ⟨jB, oB, h⟩ := bsome h
      refine EL_p (ePtr iF u3 1) (P_indexAddr (α := Int) Tryz.underlying23 Tryz.sizeOf3 rfl eD rfl oB) rfl ?_
      have nF := PT_idx eD oB
      refine EL_do .plain rfl (D_load (g := m8) Tryz.isAgg3 Tryz.sizeOf3 rfl nF fun oG oF => ?_)
      obtain rfl := RV_int.1 oF
      refine EL_in (.bool ((jB == (-1 : Int)))) rfl rfl rfl rfl ?_
      refine EL_nil (thn_n ?_)
      rcases csome h with ⟨l9, h⟩ | ⟨l9, h⟩
      ·refine E_ct l9 rfl ?_
       refine E_region (EL_mv dB rfl ?_)
       refine EL_mv k8 rfl ?_
       refine EL_mv l8 rfl ?_
       have gD : RV m8.m zE (⟨List.toArray [o0, u3], rfl⟩ : Vector Int 2) (.agg (setCh [[.int .i64 0], [.int .i64 0]] [(0, .int .i64 (o0)), (1, .int .i64 (u3))]).flatten.toArray) := RV_build rfl (rep_vec (flat_chunk rfl (flat_chunk rfl flat_nil)) rfl)
       generalize nE : (Value.agg (setCh [[.int .i64 0], [.int .i64 0]] [(0, .int .i64 (o0)), (1, .int .i64 (u3))]).flatten.toArray) = iD at gD
       refine EL_p iD (nE ▸ P_buildA (vs := [(0, .int .i64 (o0)), (1, .int .i64 (u3))]) [[.int .i64 0], [.int .i64 0]] Tryz.underlying65 layA_65 szA_3 rfl (by simp) (.cons rfl (.cons rfl .nil)) ⟨⟨_, rfl, rfl⟩, ⟨⟨_, rfl, rfl⟩, trivial⟩⟩) rfl ?_
       refine EL_do .plain rfl (D_buildSlice (g := m8) 3037 (xs := ([(⟨List.toArray [o0, u3], rfl⟩ : Vector Int 2)] : List (Vector Int 2))) (vs := [iD]) Tryz.underlying62 Tryz.sizeOf65 Tryz.zeroValue65 rfl rfl (.cons rfl .nil) (RVs.cons gD RVs.nil) rfl rfl fun pF sG tG hs o193 qF hxt hfl => ?_)
       have hfr := hfr.stp hs
       have l5 := l5.stp hs
       have m7 := m7.stp hs
       have g8 := g8.stp hs rfl
       obtain ⟨zB, oE, h⟩ := bsome h
       refine EL_do .plain rfl (D_append (g := pF) (i := 3006) Tryz.underlying62 info_65 rfl rfl g8 m7 rfl qF oE fun rF uG jD hs o194 sF _ => ?_)
       have hfr := hfr.stp hs
       have l5 := l5.stp hs
       refine EL_at jD rfl rfl ?_
       refine EL_nil (blk_n ?_)
       obtain rfl := sinj h
       exact hQ _ _ ⟨rF, (jD), hfr, x8, l5, rfl, sF, o194, k8, l8⟩
      ·refine E_cf l9 rfl ?_
       refine E_skip (blk_n ?_)
       obtain rfl := sinj h
       exact hQ _ _ ⟨m8, (y6), hfr, x8, l5, dB, m7, g8, k8, l8⟩
     ·clear hx
      obtain ⟨tF, lD, hfr, mD, nD, oD, sD, tD, uD, vD⟩ := hR
      refine E_region (EL_mv vD rfl ?_)
      refine EL_in (.int .i64 ((w64 (u3 + (1 : Int))))) rfl rfl rfl rfl ?_
      refine EL_at (.int .i64 ((w64 (u3 + (1 : Int))))) rfl rfl ?_
      exact EL_nil (thn_n (lE (i6, (w64 (u3 + (1 : Int)))) _ _ ⟨tF, (lD), hfr, mD, nD, oD, sD, tD, uD, rfl⟩ h))
   ·clear hx
    obtain ⟨uF, xD, hfr, yD, zD, aE, bE, cE, dE⟩ := hR
    refine E_region (EL_mv dE rfl ?_)
    refine EL_in (.int .i64 ((w64 (o0 + (1 : Int))))) rfl rfl rfl rfl ?_
    refine EL_at (.int .i64 ((w64 (o0 + (1 : Int))))) rfl rfl ?_
    exact EL_nil (thn_n (jE (j6, (w64 (o0 + (1 : Int)))) _ _ ⟨uF, (xD), hfr, yD, zD, aE, bE, cE, rfl⟩ h))
 ·clear hx
  obtain ⟨vG, iB, hfr, eE, iE, vF⟩ := hR
  refine E_seq (E_region (EL_mv eE rfl ?_))
  refine EL_at iB rfl rfl ?_
  refine EL_nil (thn_n (E_ret ?_))
  obtain rfl := sinj h
  exact end1 rfl rfl (show _ = iB from rfl) ⟨_, hfr, iE⟩
def f37 (x0 : PayTable) (x1 : PayTable) : Option (Bool) :=
 jn (σ := Unit) (fun _ =>
  jn (σ := Unit) (fun _ =>
   some (true)
   ) fun u9 =>
  lp (σ := Int) (fun y9 o0 =>
   jn (σ := Unit) (fun _ =>
    jn (σ := Unit) (fun _ =>
     y9 ((w64 (o0 + (1 : Int))))
     ) fun z9 =>
    (idx ((x0).Rows) o0).bind fun bA =>
    (idx ((x1).Rows) o0).bind fun iA =>
    (f29 bA iA).bind fun x6 =>
    bif (!x6) then
     some (false)
    else
     z9 ()
    ) fun rA =>
   bif (decide (o0 < (((x0).Rows).length : Int))) then
    rA ()
   else
    u9 ()
   ) big ((0 : Int))
  ) fun oD =>
 Option.bind (α := Bool) (
  bif ((x0).Total != (x1).Total) then
   some (true)
  else
   (f29 ((x0).Across) ((x1).Across)).bind fun y6 =>
   bif (!y6) then
    some (true)
   else
    (f29 ((x0).Down) ((x1).Down)).bind fun d7 =>
    bif (!d7) then
     some (true)
    else
     some (((((x0).Rows).length : Int) != (((x1).Rows).length : Int)))
  ) fun x5 =>
 bif x5 then
  some (false)
 else
  oD ()
theorem en37 : Enters Tryz.prog 37 := enters_of Tryz.func37 (by kernel_rfl) rfl
theorem wk37 {gI : Gh} {wI : World} {x0 : PayTable} {x1 : PayTable} {up0 : Value} (rp0 : RV gI.m wI x0 up0) {up1 : Value} (rp1 : RV gI.m wI x1 up1) {r : Bool} (h : f37 x0 x1 = some r) : Fn Tryz.prog 37 #[up0, up1] gI wI (fun _ _ v => v = .bool (r)) := by
 unfold f37 at h
 refine fn_of_E Tryz.func37 rfl (Nat.le_of_ble_eq_true rfl) fun g0 hm hfr => ?_
 have rp0 : RV g0.m wI x0 up0 := hm ▸ rp0
 have rp1 : RV g0.m wI x1 up1 := hm ▸ rp1
 show E _ 55 none _ _ _ _ _
 refine E_seq (E_region (EL_do .plain rfl (D_box (g := g0) rfl rp0 fun g1 w1 p1 hs q1 => ?_)))
 have hfr := hfr.ext hs
 have rp1 := rp1.ext hs
 refine EL_do .plain rfl (D_box (g := g1) rfl rp1 fun g2 w2 p2 hs q2 => ?_)
 have hfr := hfr.ext hs
 have q1 := q1.ext hs
 refine EL_at (.bool false) rfl rfl ?_
 refine EL_nil (thn_n (E_joinC h (fun (s : Unit) e w => ∃ (g : Gh) , Fr gI wI g w ∧ e 2 = p1 ∧ PT g.m w (x0 : PayTable) p1 ∧ e 3 = p2 ∧ PT g.m w (x1 : PayTable) p2) (fun X51 oD sD h => ?_) ?_))
 ·obtain ⟨x5, hx, h⟩ := bsome h
  refine E_join (fun e w => ∃ (g : Gh) , Fr gI wI g w ∧ e 2 = p1 ∧ PT g.m w (x0 : PayTable) p1 ∧ e 3 = p2 ∧ PT g.m w (x1 : PayTable) p2 ∧ e 35 = .bool (x5)) (fun Q' hQ => ?_) (fun yF mG hR => ?_)
  ·replace h := hx
   clear hx
   refine E_region (EL_p (fPtr p1 3) (P_fieldAddr at_58_3 rfl (PT.ptr q1)) rfl ?_)
   have lE := PT_field (part_PayTable_3).1 q1
   refine EL_do .plain rfl (D_load (g := g2) Tryz.isAgg3 Tryz.sizeOf3 rfl lE fun nG mE => ?_)
   obtain rfl := RV_int.1 mE
   refine EL_p (fPtr p2 3) (P_fieldAddr at_58_3 rfl (PT.ptr q2)) rfl ?_
   have nE := PT_field (part_PayTable_3).1 q2
   refine EL_do .plain rfl (D_load (g := g2) Tryz.isAgg3 Tryz.sizeOf3 rfl nE fun oG oE => ?_)
   obtain rfl := RV_int.1 oE
   refine EL_in (.bool (((x0).Total != (x1).Total))) rfl rfl rfl rfl ?_
   refine EL_mw (.bool (((x0).Total != (x1).Total))) rfl rfl ?_
   rcases csome h with ⟨l5, h⟩ | ⟨l5, h⟩
   ·refine EL_s rfl rfl l5 rfl rfl ?_
    iterate 5 refine EL_s rfl rfl l5 rfl rfl ?_
    refine EL_p (.bool true) (P_pick (b := ((x0).Total != (x1).Total)) rfl (pick_t l5 rfl)) rfl ?_
    refine EL_dead 17 rfl ?_
    refine EL_nil ?_
    obtain rfl := sinj h
    exact hQ _ _ ⟨g2, hfr, rfl, q1, rfl, q2, rfl⟩
   ·refine EL_y (fPtr p1 1) (P_fieldAddr at_58_1 rfl (PT.ptr q1)) rfl rfl l5 rfl ?_
    have rE := PT_field (part_PayTable_1).1 q1
    refine EL_do (.yes2 rfl rfl l5) rfl (D_load (g := g2) Tryz.isAgg23 Tryz.sizeOf23 rfl rE fun sE tE => ?_)
    refine EL_y (fPtr p2 1) (P_fieldAddr at_58_1 rfl (PT.ptr q2)) rfl rfl l5 rfl ?_
    have uE := PT_field (part_PayTable_1).1 q2
    refine EL_do (.yes2 rfl rfl l5) rfl (D_load (g := g2) Tryz.isAgg23 Tryz.sizeOf23 rfl uE fun vE xE => ?_)
    obtain ⟨y6, tD, h⟩ := bsome h
    refine EL_do (.yes2 rfl rfl l5) rfl (D_call (g := g2) (vs := [sE, vE]) en29 (.cons rfl (.cons rfl .nil)) (wk29 tE xE tD) fun d9 zF sG hs hr => ?_)
    have hfr := hfr.ext hs
    have q1 := q1.ext hs
    have q2 := q2.ext hs
    subst hr
    refine EL_y (.bool (!y6)) (P_not rfl) rfl rfl l5 rfl ?_
    refine EL_p (.bool (!y6)) (P_pick (b := ((x0).Total != (x1).Total)) rfl (pick_f l5 rfl)) rfl ?_
    refine EL_mw (.bool (!y6)) rfl rfl ?_
    rcases csome h with ⟨t5, h⟩ | ⟨t5, h⟩
    ·refine EL_s rfl rfl t5 rfl rfl ?_
     iterate 5 refine EL_s rfl rfl t5 rfl rfl ?_
     refine EL_p (.bool true) (P_pick (b := (!y6)) rfl (pick_t t5 rfl)) rfl ?_
     refine EL_dead 9 rfl ?_
     refine EL_nil ?_
     obtain rfl := sinj h
     exact hQ _ _ ⟨d9, hfr, rfl, q1, rfl, q2, rfl⟩
    ·refine EL_y (fPtr p1 2) (P_fieldAddr at_58_2 rfl (PT.ptr q1)) rfl rfl t5 rfl ?_
     have yE := PT_field (part_PayTable_2).1 q1
     refine EL_do (.yes2 rfl rfl t5) rfl (D_load (g := d9) Tryz.isAgg23 Tryz.sizeOf23 rfl yE fun zE cF => ?_)
     refine EL_y (fPtr p2 2) (P_fieldAddr at_58_2 rfl (PT.ptr q2)) rfl rfl t5 rfl ?_
     have dF := PT_field (part_PayTable_2).1 q2
     refine EL_do (.yes2 rfl rfl t5) rfl (D_load (g := d9) Tryz.isAgg23 Tryz.sizeOf23 rfl dF fun eF iF => ?_)
     obtain ⟨d7, uD, h⟩ := bsome h
     refine EL_do (.yes2 rfl rfl t5) rfl (D_call (g := d9) (vs := [zE, eF]) en29 (.cons rfl (.cons rfl .nil)) (wk29 cF iF uD) fun k9 aG tG hs hr => ?_)
     have hfr := hfr.ext hs
     have q1 := q1.ext hs
     have q2 := q2.ext hs
     subst hr
     refine EL_y (.bool (!d7)) (P_not rfl) rfl rfl t5 rfl ?_
     refine EL_p (.bool (!d7)) (P_pick (b := (!y6)) rfl (pick_f t5 rfl)) rfl ?_
     refine EL_mw (.bool (!d7)) rfl rfl ?_
     rcases csome h with ⟨u3, h⟩ | ⟨u3, h⟩
     ·refine EL_s rfl rfl u3 rfl rfl ?_
      iterate 6 refine EL_s rfl rfl u3 rfl rfl ?_
      refine EL_p (.bool true) (P_pick (b := (!d7)) rfl (pick_t u3 rfl)) rfl ?_
      refine EL_nil ?_
      obtain rfl := sinj h
      exact hQ _ _ ⟨k9, hfr, rfl, q1, rfl, q2, rfl⟩
     ·refine EL_y (fPtr p1 0) (P_fieldAddr at_58_0 rfl (PT.ptr q1)) rfl rfl u3 rfl ?_
      have nF := PT_field (part_PayTable_0).1 q1
      refine EL_do (.yes2 rfl rfl u3) rfl (D_load (g := k9) Tryz.isAgg56 Tryz.sizeOf56 rfl nF fun uG oF => ?_)
      refine EL_y (.int .i64 (((x0).Rows).length : Int)) (P_len Tryz.underlying56 rfl oF) rfl rfl u3 rfl ?_
      refine EL_y (fPtr p2 0) (P_fieldAddr at_58_0 rfl (PT.ptr q2)) rfl rfl u3 rfl ?_
      have pF := PT_field (part_PayTable_0).1 q2
      refine EL_do (.yes2 rfl rfl u3) rfl (D_load (g := k9) Tryz.isAgg56 Tryz.sizeOf56 rfl pF fun vG qF => ?_)
      refine EL_y (.int .i64 (((x1).Rows).length : Int)) (P_len Tryz.underlying56 rfl qF) rfl rfl u3 rfl ?_
      refine EL_y (.bool (((((x0).Rows).length : Int) != (((x1).Rows).length : Int)))) (P_int rfl rfl rfl) rfl rfl u3 rfl ?_
      refine EL_p (.bool (((((x0).Rows).length : Int) != (((x1).Rows).length : Int)))) (P_pick (b := (!d7)) rfl (pick_f u3 rfl)) rfl ?_
      refine EL_nil ?_
      obtain rfl := sinj h
      exact hQ _ _ ⟨k9, hfr, rfl, q1, rfl, q2, rfl⟩
  ·clear hx
   obtain ⟨rF, hfr, rC, uC, vC, aD, m8⟩ := hR
   rcases csome h with ⟨g8, h⟩ | ⟨g8, h⟩
   ·refine E_cond_true (Eq.trans (show ev _ _ = .bool (x5) from m8) (congrArg Value.bool g8)) ?_
    refine E_seq (E_region (EL_at (.bool false) rfl rfl ?_))
    refine EL_nil (thn_n (E_ret (thn_r ?_)))
    obtain rfl := sinj h
    exact end1 rfl rfl (show _ = .bool false from rfl) ⟨_, hfr, rfl⟩
   ·refine E_cond_false (Eq.trans (show ev _ _ = .bool (x5) from m8) (congrArg Value.bool g8)) ?_
    exact E_skip (thn_n (sD () _ _ ⟨rF, hfr, rC, uC, vC, aD⟩ h))
 ·rintro _ sF bG ⟨vD, hfr, yA, aB, dB, iB⟩ h
  refine E_joinC h (fun (s : Unit) e w => ∃ (g : Gh) , Fr gI wI g w) (fun X172 u9 bD h => ?_) ?_
  ·refine E_seq (E_region (EL_at (.int .i64 (0)) rfl rfl ?_))
   refine EL_nil (thn_n (E_block ?_))
   refine E_lp h (fun (s : Int) e w => ∃ (g : Gh) , Fr gI wI g w ∧ e 2 = p1 ∧ PT g.m w (x0 : PayTable) p1 ∧ e 3 = p2 ∧ PT g.m w (x1 : PayTable) p2 ∧ e 5 = .int .i64 (s)) ⟨vD, hfr, yA, aB, dB, iB, rfl⟩ (fun X173 y9 cD => ?_)
   rintro o0 tF cG ⟨a9, hfr, n8, i7, jB, lB, r8⟩ h
   refine E_joinC h (fun (s : Unit) e w => ∃ (g : Gh) , Fr gI wI g w ∧ e 2 = p1 ∧ PT g.m w (x0 : PayTable) p1 ∧ e 3 = p2 ∧ PT g.m w (x1 : PayTable) p2 ∧ e 5 = .int .i64 (o0)) (fun X178 rA eD h => ?_) ?_
   ·refine E_seq (E_region (EL_mv r8 rfl ?_))
    refine EL_p (fPtr p1 0) (P_fieldAddr at_58_0 n8 (PT.ptr i7)) rfl ?_
    have xD := PT_field (part_PayTable_0).1 i7
    refine EL_do .plain rfl (D_load (g := a9) Tryz.isAgg56 Tryz.sizeOf56 rfl xD fun eG yD => ?_)
    refine EL_p (.int .i64 (((x0).Rows).length : Int)) (P_len Tryz.underlying56 rfl yD) rfl ?_
    refine EL_p (.bool ((decide (o0 < (((x0).Rows).length : Int))))) (P_int rfl rfl rfl) rfl ?_
    refine EL_nil (thn_n ?_)
    rcases csome h with ⟨k8, h⟩ | ⟨k8, h⟩
    ·refine E_ct k8 rfl ?_
     exact E_skip (thn_n (eD () _ _ ⟨a9, hfr, n8, i7, jB, lB, r8⟩ h))
    ·refine E_cf k8 rfl ?_
     refine E_exit ?_
     refine thn_e ?_
     refine thn_e ?_
     refine blk_hit ?_
     exact thn_n (bD () _ _ ⟨a9, hfr⟩ h)
   ·rintro _ uF gG ⟨zD, hfr, v8, i6, x8, j6, m7⟩ h
    refine E_joinC h (fun (s : Unit) e w => ∃ (g : Gh) , Fr gI wI g w ∧ e 2 = p1 ∧ PT g.m w (x0 : PayTable) p1 ∧ e 3 = p2 ∧ PT g.m w (x1 : PayTable) p2 ∧ e 5 = .int .i64 (o0)) (fun X212 z9 gD h => ?_) ?_
    ·refine E_block ?_
     refine E_seq ?_
     have aE := PT_field (part_PayTable_0).1 i6
     refine L_load (x := .tmp 43) Tryz.isAgg56 Tryz.sizeOf56 aE fun mB nB iD => ?_
     obtain ⟨bA, l9, h⟩ := bsome h
     have bE := PT_idx nB l9
     refine L_load (x := .tmp 46) Tryz.isAgg23 Tryz.sizeOf23 bE fun oB cE jD => ?_
     have dE := PT_field (part_PayTable_0).1 j6
     refine L_load (x := .tmp 48) Tryz.isAgg56 Tryz.sizeOf56 dE fun tB vB lD => ?_
     obtain ⟨iA, n9, h⟩ := bsome h
     have eE := PT_idx vB n9
     refine L_load (x := .tmp 51) Tryz.isAgg23 Tryz.sizeOf23 eE fun yB iE mD => ?_
     obtain ⟨x6, nD, h⟩ := bsome h
     refine E_drawL (g := zD) (n := 12) [(10, (fun v g w => v = .bool (x6)))] [0, 1, 2, 3, 4, 5, 6, 7, 8, 9, 10, 11] rfl mixed (by kernel_rfl) (⟨fun _ => up_eq _, trivial⟩) ?_
     refine L_p (fPtr p1 0) rfl rfl (P_fieldAddr at_58_0 v8 (PT.ptr i6)) ?_
     refine L_ld (c := mB) rfl rfl .plain (fun _ _ h => h.ch) iD rfl ?_
     refine L_p (.int .i64 (o0)) rfl rfl (P_move m7) ?_
     refine L_p (ePtr mB o0 1) rfl rfl (P_indexAddr (α := List Int) Tryz.underlying56 Tryz.sizeOf23 rfl nB rfl l9) ?_
     refine L_ld (c := oB) rfl rfl .plain (fun _ _ h => h.ch) jD rfl ?_
     refine L_p (fPtr p2 0) rfl rfl (P_fieldAddr at_58_0 x8 (PT.ptr j6)) ?_
     refine L_ld (c := tB) rfl rfl .plain (fun _ _ h => h.ch) lD rfl ?_
     refine L_p (.int .i64 (o0)) rfl rfl (P_move m7) ?_
     refine L_p (ePtr tB o0 1) rfl rfl (P_indexAddr (α := List Int) Tryz.underlying56 Tryz.sizeOf23 rfl vB rfl n9) ?_
     refine L_ld (c := yB) rfl rfl .plain (fun _ _ h => h.ch) mD rfl ?_
     refine L_do (φ := fun v g w => v = .bool (x6)) rfl rfl .plain (fun g w hd => D_call (g := g) (vs := [oB, yB]) en29 (.cons rfl (.cons rfl .nil)) (wk29 (cE.ext hd.1) (iE.ext hd.1) nD) fun g' w' v hs hr => ⟨g', hs, hr⟩) (fun hG hv => ?_)
     obtain ⟨_, _, _, rfl⟩ := hv
     refine L_p (.bool (!x6)) rfl rfl (P_not rfl) ?_
     refine L_nl fun jE iG hs => ?_
     have hfr := hfr.ext hs
     have i6 := i6.ext hs
     have j6 := j6.ext hs
     clear hs
     refine EL_nil (thn_n ?_)
     rcases csome h with ⟨l8, h⟩ | ⟨l8, h⟩
     ·refine E_ct l8 rfl ?_
      refine E_seq (E_region (EL_at (.bool false) rfl rfl ?_))
      refine EL_nil (thn_n (E_ret (blk_r ?_)))
      refine thn_r ?_
      refine thn_r ?_
      refine blk_r ?_
      refine thn_r ?_
      obtain rfl := sinj h
      exact end1 rfl rfl (show _ = .bool false from rfl) ⟨_, hfr, rfl⟩
     ·refine E_cf l8 rfl ?_
      exact E_skip (blk_n (thn_n (gD () _ _ ⟨jE, hfr, v8, i6, x8, j6, m7⟩ h)))
    ·rintro _ vF jG ⟨kE, hfr, zB, cC, eC, mC, qC⟩ h
     refine E_region (EL_mv qC rfl ?_)
     refine EL_in (.int .i64 ((w64 (o0 + (1 : Int))))) rfl rfl rfl rfl ?_
     refine EL_at (.int .i64 ((w64 (o0 + (1 : Int))))) rfl rfl ?_
     exact EL_nil (thn_n (cD ((w64 (o0 + (1 : Int)))) _ _ ⟨kE, hfr, zB, cC, eC, mC, rfl⟩ h))
  ·rintro _ xF kG ⟨lG, hfr⟩ h
   refine E_seq (E_region (EL_at (.bool true) rfl rfl ?_))
   refine EL_nil (thn_n (E_ret ?_))
   obtain rfl := sinj h
   exact end1 rfl rfl (show _ = .bool true from rfl) ⟨_, hfr, rfl⟩
def f46 (x0 : PayTable) : Option (Bool) :=
 jn (σ := Int) (fun l5 =>
  jn (σ := Int) (fun i7 =>
   Option.bind (α := Bool) (
    bif (l5 == (x0).Total) then
     some ((i7 == (x0).Total))
    else
     some (false)
    ) fun k8 =>
   some (k8)
   ) fun zE =>
  lp (σ := Int × Int) (fun cF (t5, u3) =>
   jn (σ := Unit) (fun _ =>
    jn (σ := Int) (fun d9 =>
     cF (d9, (w64 (u3 + (1 : Int))))
     ) fun dF =>
    Option.bind (α := Int) (
     lp (σ := Int × Int) (fun eF (m7, x5) =>
      jn (σ := Unit) (fun _ =>
       Option.bind (α := Int) (
        (idx ((x0).Rows) x5).bind fun iF =>
        (idx iF u3).bind fun iB =>
        some ((w64 (m7 + iB)))
        ) fun l8 =>
       eF (l8, (w64 (x5 + (1 : Int))))
       ) fun nF =>
      bif (decide (x5 < (((x0).Rows).length : Int))) then
       nF ()
      else
       some (m7)
      ) big ((0 : Int), (0 : Int))
     ) fun x6 =>
    jn (σ := Unit) (fun _ =>
     dF ((w64 (t5 + x6)))
     ) fun oF =>
    (idx ((x0).Down) u3).bind fun eE =>
    bif (x6 != eE) then
     some (false)
    else
     oF ()
    ) fun pF =>
   bif (decide (u3 < (((x0).Down).length : Int))) then
    pF ()
   else
    zE (t5)
   ) big ((0 : Int), (0 : Int))
  ) fun qF =>
 lp (σ := Int × Int) (fun rF (i6, o0) =>
  jn (σ := Unit) (fun _ =>
   jn (σ := Int) (fun k9 =>
    rF (k9, (w64 (o0 + (1 : Int))))
    ) fun sF =>
   Option.bind (α := Int) (
    lp (σ := Int × Int) (fun tF (g8, j6) =>
     jn (σ := Unit) (fun _ =>
      Option.bind (α := Int) (
       (idx ((x0).Rows) o0).bind fun uF =>
       (idx uF j6).bind fun jB =>
       some ((w64 (g8 + jB)))
       ) fun m8 =>
      tF (m8, (w64 (j6 + (1 : Int))))
      ) fun vF =>
     (idx ((x0).Rows) o0).bind fun lB =>
     bif (decide (j6 < ((lB).length : Int))) then
      vF ()
     else
      some (g8)
     ) big ((0 : Int), (0 : Int))
    ) fun y6 =>
   jn (σ := Unit) (fun _ =>
    sF ((w64 (i6 + y6)))
    ) fun xF =>
   (idx ((x0).Across) o0).bind fun iE =>
   bif (y6 != iE) then
    some (false)
   else
    xF ()
   ) fun yF =>
  bif (decide (o0 < (((x0).Rows).length : Int))) then
   yF ()
  else
   qF (i6)
  ) big ((0 : Int), (0 : Int))
theorem en46 : Enters Tryz.prog 46 := enters_of Tryz.func46 (by kernel_rfl) rfl
theorem wk46 {gI : Gh} {wI : World} {x0 : PayTable} {up0 : Value} (rp0 : RV gI.m wI x0 up0) {r : Bool} (h : f46 x0 = some r) : Fn Tryz.prog 46 #[up0] gI wI (fun _ _ v => v = .bool (r)) := by
 unfold f46 at h
 refine fn_of_E Tryz.func46 rfl (Nat.le_of_ble_eq_true rfl) fun g0 hm hfr => ?_
 have rp0 : RV g0.m wI x0 up0 := hm ▸ rp0
 show E _ 92 none _ _ _ _ _
 refine E_seq (E_region (EL_do .plain rfl (D_box (g := g0) rfl rp0 fun g1 w1 p1 hs q1 => ?_)))
 have hfr := hfr.ext hs
 refine EL_at (.bool false) rfl rfl ?_
 refine EL_nil (thn_n (E_seq (E_region (EL_at (.int .i64 (0)) rfl rfl ?_))))
 refine EL_at (.int .i64 (0)) rfl rfl ?_
 refine EL_nil (thn_n (E_joinC h (fun (s : Int) e w => ∃ (g : Gh) , Fr gI wI g w ∧ e 1 = p1 ∧ PT g.m w (x0 : PayTable) p1 ∧ e 3 = .int .i64 (s) ∧ e 4 = .int .i64 ((0 : Int))) (fun X177 qF nJ h => ?_) ?_))
 ·refine E_seq (E_region (EL_at (.int .i64 (0)) rfl rfl ?_))
  refine EL_nil (thn_n (E_block ?_))
  refine E_lp h (fun (s : Int × Int) e w => ∃ (g : Gh) , Fr gI wI g w ∧ e 1 = p1 ∧ PT g.m w (x0 : PayTable) p1 ∧ e 3 = .int .i64 (s.1) ∧ e 4 = .int .i64 ((0 : Int)) ∧ e 5 = .int .i64 (s.2)) ⟨g1, hfr, rfl, q1, rfl, rfl, rfl⟩ (fun X178 rF oJ => ?_)
  rintro ⟨i6, o0⟩ oM lN ⟨jE, hfr, l9, n8, qC, rC, uC⟩ h
  refine E_joinC h (fun (s : Unit) e w => ∃ (g : Gh) , Fr gI wI g w ∧ e 1 = p1 ∧ PT g.m w (x0 : PayTable) p1 ∧ e 3 = .int .i64 (i6) ∧ e 4 = .int .i64 ((0 : Int)) ∧ e 5 = .int .i64 (o0)) (fun X183 yF pJ h => ?_) ?_
  ·refine E_seq (E_region (EL_mv uC rfl ?_))
   refine EL_p (fPtr p1 0) (P_fieldAddr at_58_0 l9 (PT.ptr n8)) rfl ?_
   have lK := PT_field (part_PayTable_0).1 n8
   refine EL_do .plain rfl (D_load (g := jE) Tryz.isAgg56 Tryz.sizeOf56 rfl lK fun mN mK => ?_)
   refine EL_p (.int .i64 (((x0).Rows).length : Int)) (P_len Tryz.underlying56 rfl mK) rfl ?_
   refine EL_p (.bool ((decide (o0 < (((x0).Rows).length : Int))))) (P_int rfl rfl rfl) rfl ?_
   refine EL_nil (thn_n ?_)
   rcases csome h with ⟨mB, h⟩ | ⟨mB, h⟩
   ·refine E_ct mB rfl ?_
    exact E_skip (thn_n (pJ () _ _ ⟨jE, hfr, l9, n8, qC, rC, uC⟩ h))
   ·refine E_cf mB rfl ?_
    refine E_exit ?_
    refine thn_e ?_
    refine thn_e ?_
    refine blk_hit ?_
    exact thn_n (nJ (i6) _ _ ⟨jE, hfr, l9, n8, qC, rC⟩ h)
  ·rintro _ pM nN ⟨nK, hfr, zF, aG, bG, cG, eG⟩ h
   refine E_joinC h (fun (s : Int) e w => ∃ (g : Gh) , Fr gI wI g w ∧ e 1 = p1 ∧ PT g.m w (x0 : PayTable) p1 ∧ e 3 = .int .i64 (s) ∧ e 4 = .int .i64 ((0 : Int)) ∧ e 5 = .int .i64 (o0)) (fun X269 sF qJ h => ?_) ?_
   ·refine E_block ?_
    refine E_seq (E_region (EL_at (.int .i64 (0)) rfl rfl ?_))
    refine EL_nil (thn_n ?_)
    obtain ⟨y6, hx, h⟩ := bsome h
    refine E_join (fun e w => ∃ (g : Gh) , Fr gI wI g w ∧ e 1 = p1 ∧ PT g.m w (x0 : PayTable) p1 ∧ e 3 = .int .i64 (i6) ∧ e 4 = .int .i64 ((0 : Int)) ∧ e 5 = .int .i64 (o0) ∧ e 6 = .int .i64 (y6)) (fun Q' hQ => ?_) (fun qM oN hR => ?_)
    ·replace h := hx
     clear hx
     refine E_seq (E_region (EL_at (.int .i64 (0)) rfl rfl ?_))
     refine EL_nil (thn_n (E_block ?_))
     refine E_lp h (fun (s : Int × Int) e w => ∃ (g : Gh) , Fr gI wI g w ∧ e 1 = p1 ∧ PT g.m w (x0 : PayTable) p1 ∧ e 3 = .int .i64 (i6) ∧ e 4 = .int .i64 ((0 : Int)) ∧ e 5 = .int .i64 (o0) ∧ e 6 = .int .i64 (s.1) ∧ e 7 = .int .i64 (s.2)) ⟨nK, hfr, zF, aG, bG, cG, eG, rfl, rfl⟩ (fun X303 tF rJ => ?_)
     rintro ⟨g8, j6⟩ rM pN ⟨nB, hfr, n9, r8, vC, aD, u9, bD, cD⟩ h
     refine E_joinC h (fun (s : Unit) e w => ∃ (g : Gh) , Fr gI wI g w ∧ e 1 = p1 ∧ PT g.m w (x0 : PayTable) p1 ∧ e 3 = .int .i64 (i6) ∧ e 4 = .int .i64 ((0 : Int)) ∧ e 5 = .int .i64 (o0) ∧ e 6 = .int .i64 (g8) ∧ e 7 = .int .i64 (j6)) (fun X311 vF sJ h => ?_) ?_
     ·refine E_seq (E_region (EL_mv cD rfl ?_))
      refine EL_p (fPtr p1 0) (P_fieldAddr at_58_0 n9 (PT.ptr r8)) rfl ?_
      have oK := PT_field (part_PayTable_0).1 r8
      refine EL_do .plain rfl (D_load (g := nB) Tryz.isAgg56 Tryz.sizeOf56 rfl oK fun pK gG => ?_)
      refine EL_mv u9 rfl ?_
      obtain ⟨lB, oE, h⟩ := bsome h
      refine EL_p (ePtr pK o0 1) (P_indexAddr (α := List Int) Tryz.underlying56 Tryz.sizeOf23 rfl gG rfl oE) rfl ?_
      have qK := PT_idx gG oE
      refine EL_do .plain rfl (D_load (g := nB) Tryz.isAgg23 Tryz.sizeOf23 rfl qK fun qN sK => ?_)
      refine EL_p (.int .i64 ((lB).length : Int)) (P_len Tryz.underlying23 rfl sK) rfl ?_
      refine EL_in (.bool ((decide (j6 < ((lB).length : Int))))) rfl rfl rfl rfl ?_
      refine EL_nil (thn_n ?_)
      rcases csome h with ⟨oB, h⟩ | ⟨oB, h⟩
      ·refine E_ct oB rfl ?_
       exact E_skip (thn_n (sJ () _ _ ⟨nB, hfr, n9, r8, vC, aD, u9, bD, cD⟩ h))
      ·refine E_cf oB rfl ?_
       refine E_exit ?_
       refine thn_e ?_
       refine thn_e ?_
       refine blk_hit ?_
       obtain rfl := sinj h
       exact hQ _ _ ⟨nB, hfr, n9, r8, vC, aD, u9, bD⟩
     ·rintro _ sM rN ⟨tB, hfr, eD, y9, hG, iG, gD, jG, iD⟩ h
      obtain ⟨m8, hx, h⟩ := bsome h
      refine E_join (fun e w => ∃ (g : Gh) , Fr gI wI g w ∧ e 1 = p1 ∧ PT g.m w (x0 : PayTable) p1 ∧ e 3 = .int .i64 (i6) ∧ e 4 = .int .i64 ((0 : Int)) ∧ e 5 = .int .i64 (o0) ∧ e 6 = .int .i64 (m8) ∧ e 7 = .int .i64 (j6)) (fun Q' hQ => ?_) (fun tM sN hR => ?_)
      ·replace h := hx
       clear hx
       refine E_block ?_
       refine E_region (EL_mv jG rfl ?_)
       refine EL_p (fPtr p1 0) (P_fieldAddr at_58_0 eD (PT.ptr y9)) rfl ?_
       have tK := PT_field (part_PayTable_0).1 y9
       refine EL_do .plain rfl (D_load (g := tB) Tryz.isAgg56 Tryz.sizeOf56 rfl tK fun uK kG => ?_)
       refine EL_mv gD rfl ?_
       obtain ⟨uF, rE, h⟩ := bsome h
       refine EL_p (ePtr uK o0 1) (P_indexAddr (α := List Int) Tryz.underlying56 Tryz.sizeOf23 rfl kG rfl rE) rfl ?_
       have vK := PT_idx kG rE
       refine EL_do .plain rfl (D_load (g := tB) Tryz.isAgg23 Tryz.sizeOf23 rfl vK fun xK lG => ?_)
       refine EL_mv iD rfl ?_
       obtain ⟨jB, sE, h⟩ := bsome h
       refine EL_p (ePtr xK j6 1) (P_indexAddr (α := Int) Tryz.underlying23 Tryz.sizeOf3 rfl lG rfl sE) rfl ?_
       have yK := PT_idx lG sE
       refine EL_do .plain rfl (D_load (g := tB) Tryz.isAgg3 Tryz.sizeOf3 rfl yK fun tN zK => ?_)
       obtain rfl := RV_int.1 zK
       refine EL_in (.int .i64 ((w64 (g8 + jB)))) rfl rfl rfl rfl ?_
       refine EL_at (.int .i64 ((w64 (g8 + jB)))) rfl rfl ?_
       refine EL_nil (blk_n ?_)
       obtain rfl := sinj h
       exact hQ _ _ ⟨tB, hfr, eD, y9, hG, iG, gD, rfl, iD⟩
      ·clear hx
       obtain ⟨aL, hfr, mG, nG, oG, sG, tG, uG, vG⟩ := hR
       refine E_region (EL_mv vG rfl ?_)
       refine EL_in (.int .i64 ((w64 (j6 + (1 : Int))))) rfl rfl rfl rfl ?_
       refine EL_at (.int .i64 ((w64 (j6 + (1 : Int))))) rfl rfl ?_
       exact EL_nil (thn_n (rJ (m8, (w64 (j6 + (1 : Int)))) _ _ ⟨aL, hfr, mG, nG, oG, sG, tG, uG, rfl⟩ h))
    ·clear hx
     obtain ⟨kE, hfr, jD, z9, xG, yG, lD, mD⟩ := hR
     refine E_joinC h (fun (s : Unit) e w => ∃ (g : Gh) , Fr gI wI g w ∧ e 1 = p1 ∧ PT g.m w (x0 : PayTable) p1 ∧ e 3 = .int .i64 (i6) ∧ e 4 = .int .i64 ((0 : Int)) ∧ e 5 = .int .i64 (o0) ∧ e 6 = .int .i64 (y6)) (fun X343 xF vJ h => ?_) ?_
     ·refine E_seq (E_region (EL_mv mD rfl ?_))
      refine EL_p (fPtr p1 1) (P_fieldAddr at_58_1 jD (PT.ptr z9)) rfl ?_
      have bL := PT_field (part_PayTable_1).1 z9
      refine EL_do .plain rfl (D_load (g := kE) Tryz.isAgg23 Tryz.sizeOf23 rfl bL fun dL zG => ?_)
      refine EL_mv lD rfl ?_
      obtain ⟨iE, tE, h⟩ := bsome h
      refine EL_p (ePtr dL o0 1) (P_indexAddr (α := Int) Tryz.underlying23 Tryz.sizeOf3 rfl zG rfl tE) rfl ?_
      have eL := PT_idx zG tE
      refine EL_do .plain rfl (D_load (g := kE) Tryz.isAgg3 Tryz.sizeOf3 rfl eL fun uN gL => ?_)
      obtain rfl := RV_int.1 gL
      refine EL_in (.bool ((y6 != iE))) rfl rfl rfl rfl ?_
      refine EL_nil (thn_n ?_)
      rcases csome h with ⟨vB, h⟩ | ⟨vB, h⟩
      ·refine E_ct vB rfl ?_
       refine E_seq (E_region (EL_at (.bool false) rfl rfl ?_))
       refine EL_nil (thn_n (E_ret (thn_r ?_)))
       refine blk_r ?_
       refine thn_r ?_
       refine thn_r ?_
       refine blk_r ?_
       refine thn_r ?_
       obtain rfl := sinj h
       exact end1 rfl rfl (show _ = .bool false from rfl) ⟨_, hfr, rfl⟩
      ·refine E_cf vB rfl ?_
       exact E_skip (thn_n (vJ () _ _ ⟨kE, hfr, jD, z9, xG, yG, lD, mD⟩ h))
     ·rintro _ uM vN ⟨iL, hfr, aH, cH, dH, gH, iH, jH⟩ h
      refine E_region (EL_mv dH rfl ?_)
      refine EL_mv jH rfl ?_
      refine EL_in (.int .i64 ((w64 (i6 + y6)))) rfl rfl rfl rfl ?_
      refine EL_at (.int .i64 ((w64 (i6 + y6)))) rfl rfl ?_
      exact EL_nil (blk_n (thn_n (qJ ((w64 (i6 + y6))) _ _ ⟨iL, hfr, aH, cH, rfl, gH, iH⟩ h)))
   ·rintro k9 vM xN ⟨jL, hfr, kH, lH, mH, nH, oH⟩ h
    refine E_region (EL_mv oH rfl ?_)
    refine EL_in (.int .i64 ((w64 (o0 + (1 : Int))))) rfl rfl rfl rfl ?_
    refine EL_at (.int .i64 ((w64 (o0 + (1 : Int))))) rfl rfl ?_
    exact EL_nil (thn_n (oJ (k9, (w64 (o0 + (1 : Int)))) _ _ ⟨jL, hfr, kH, lH, mH, nH, rfl⟩ h))
 ·rintro l5 xM yN ⟨lL, hfr, pH, qH, sH, tH⟩ h
  refine E_joinC h (fun (s : Int) e w => ∃ (g : Gh) , Fr gI wI g w ∧ e 1 = p1 ∧ PT g.m w (x0 : PayTable) p1 ∧ e 3 = .int .i64 (l5) ∧ e 4 = .int .i64 (s)) (fun X503 zE xJ h => ?_) ?_
  ·refine E_seq (E_region (EL_at (.int .i64 (0)) rfl rfl ?_))
   refine EL_nil (thn_n (E_block ?_))
   refine E_lp h (fun (s : Int × Int) e w => ∃ (g : Gh) , Fr gI wI g w ∧ e 1 = p1 ∧ PT g.m w (x0 : PayTable) p1 ∧ e 3 = .int .i64 (l5) ∧ e 4 = .int .i64 (s.1) ∧ e 8 = .int .i64 (s.2)) ⟨lL, hfr, pH, qH, sH, tH, rfl⟩ (fun X504 cF yJ => ?_)
   rintro ⟨t5, u3⟩ yM zN ⟨lE, hfr, bA, v8, nD, oD, sD⟩ h
   refine E_joinC h (fun (s : Unit) e w => ∃ (g : Gh) , Fr gI wI g w ∧ e 1 = p1 ∧ PT g.m w (x0 : PayTable) p1 ∧ e 3 = .int .i64 (l5) ∧ e 4 = .int .i64 (t5) ∧ e 8 = .int .i64 (u3)) (fun X509 pF zJ h => ?_) ?_
   ·refine E_seq (E_region (EL_mv sD rfl ?_))
    refine EL_p (fPtr p1 2) (P_fieldAddr at_58_2 bA (PT.ptr v8)) rfl ?_
    have mL := PT_field (part_PayTable_2).1 v8
    refine EL_do .plain rfl (D_load (g := lE) Tryz.isAgg23 Tryz.sizeOf23 rfl mL fun aO nL => ?_)
    refine EL_p (.int .i64 (((x0).Down).length : Int)) (P_len Tryz.underlying23 rfl nL) rfl ?_
    refine EL_p (.bool ((decide (u3 < (((x0).Down).length : Int))))) (P_int rfl rfl rfl) rfl ?_
    refine EL_nil (thn_n ?_)
    rcases csome h with ⟨yB, h⟩ | ⟨yB, h⟩
    ·refine E_ct yB rfl ?_
     exact E_skip (thn_n (zJ () _ _ ⟨lE, hfr, bA, v8, nD, oD, sD⟩ h))
    ·refine E_cf yB rfl ?_
     refine E_exit ?_
     refine thn_e ?_
     refine thn_e ?_
     refine blk_hit ?_
     exact thn_n (xJ (t5) _ _ ⟨lE, hfr, bA, v8, nD, oD⟩ h)
   ·rintro _ zM bO ⟨oL, hfr, uH, xH, yH, zH, aI⟩ h
    refine E_joinC h (fun (s : Int) e w => ∃ (g : Gh) , Fr gI wI g w ∧ e 1 = p1 ∧ PT g.m w (x0 : PayTable) p1 ∧ e 3 = .int .i64 (l5) ∧ e 4 = .int .i64 (s) ∧ e 8 = .int .i64 (u3)) (fun X583 dF aK h => ?_) ?_
    ·refine E_block ?_
     refine E_seq (E_region (EL_at (.int .i64 (0)) rfl rfl ?_))
     refine EL_nil (thn_n ?_)
     obtain ⟨x6, hx, h⟩ := bsome h
     refine E_join (fun e w => ∃ (g : Gh) , Fr gI wI g w ∧ e 1 = p1 ∧ PT g.m w (x0 : PayTable) p1 ∧ e 3 = .int .i64 (l5) ∧ e 4 = .int .i64 (t5) ∧ e 8 = .int .i64 (u3) ∧ e 9 = .int .i64 (x6)) (fun Q' hQ => ?_) (fun bN cO hR => ?_)
     ·replace h := hx
      clear hx
      refine E_seq (E_region (EL_at (.int .i64 (0)) rfl rfl ?_))
      refine EL_nil (thn_n (E_block ?_))
      refine E_lp h (fun (s : Int × Int) e w => ∃ (g : Gh) , Fr gI wI g w ∧ e 1 = p1 ∧ PT g.m w (x0 : PayTable) p1 ∧ e 3 = .int .i64 (l5) ∧ e 4 = .int .i64 (t5) ∧ e 8 = .int .i64 (u3) ∧ e 9 = .int .i64 (s.1) ∧ e 10 = .int .i64 (s.2)) ⟨oL, hfr, uH, xH, yH, zH, aI, rfl, rfl⟩ (fun X611 eF bK => ?_)
      rintro ⟨m7, x5⟩ cN dO ⟨mE, hfr, iA, x8, tD, uD, vD, xD, aB⟩ h
      refine E_joinC h (fun (s : Unit) e w => ∃ (g : Gh) , Fr gI wI g w ∧ e 1 = p1 ∧ PT g.m w (x0 : PayTable) p1 ∧ e 3 = .int .i64 (l5) ∧ e 4 = .int .i64 (t5) ∧ e 8 = .int .i64 (u3) ∧ e 9 = .int .i64 (m7) ∧ e 10 = .int .i64 (x5)) (fun X616 nF cK h => ?_) ?_
      ·refine E_seq (E_region (EL_mv aB rfl ?_))
       refine EL_p (fPtr p1 0) (P_fieldAddr at_58_0 iA (PT.ptr x8)) rfl ?_
       have pL := PT_field (part_PayTable_0).1 x8
       refine EL_do .plain rfl (D_load (g := mE) Tryz.isAgg56 Tryz.sizeOf56 rfl pL fun eO qL => ?_)
       refine EL_p (.int .i64 (((x0).Rows).length : Int)) (P_len Tryz.underlying56 rfl qL) rfl ?_
       refine EL_p (.bool ((decide (x5 < (((x0).Rows).length : Int))))) (P_int rfl rfl rfl) rfl ?_
       refine EL_nil (thn_n ?_)
       rcases csome h with ⟨zB, h⟩ | ⟨zB, h⟩
       ·refine E_ct zB rfl ?_
        exact E_skip (thn_n (cK () _ _ ⟨mE, hfr, iA, x8, tD, uD, vD, xD, aB⟩ h))
       ·refine E_cf zB rfl ?_
        refine E_exit ?_
        refine thn_e ?_
        refine thn_e ?_
        refine blk_hit ?_
        obtain rfl := sinj h
        exact hQ _ _ ⟨mE, hfr, iA, x8, tD, uD, vD, xD⟩
      ·rintro _ dN gO ⟨cC, hfr, yD, rA, bI, dI, zD, iI, dB⟩ h
       obtain ⟨l8, hx, h⟩ := bsome h
       refine E_join (fun e w => ∃ (g : Gh) , Fr gI wI g w ∧ e 1 = p1 ∧ PT g.m w (x0 : PayTable) p1 ∧ e 3 = .int .i64 (l5) ∧ e 4 = .int .i64 (t5) ∧ e 8 = .int .i64 (u3) ∧ e 9 = .int .i64 (l8) ∧ e 10 = .int .i64 (x5)) (fun Q' hQ => ?_) (fun eN iO hR => ?_)
       ·replace h := hx
        clear hx
        refine E_block ?_
        refine E_region (EL_mv iI rfl ?_)
        refine EL_p (fPtr p1 0) (P_fieldAddr at_58_0 yD (PT.ptr rA)) rfl ?_
        have rL := PT_field (part_PayTable_0).1 rA
        refine EL_do .plain rfl (D_load (g := cC) Tryz.isAgg56 Tryz.sizeOf56 rfl rL fun tL jI => ?_)
        refine EL_mv dB rfl ?_
        obtain ⟨iF, uE, h⟩ := bsome h
        refine EL_p (ePtr tL x5 1) (P_indexAddr (α := List Int) Tryz.underlying56 Tryz.sizeOf23 rfl jI rfl uE) rfl ?_
        have uL := PT_idx jI uE
        refine EL_do .plain rfl (D_load (g := cC) Tryz.isAgg23 Tryz.sizeOf23 rfl uL fun vL kI => ?_)
        refine EL_mv zD rfl ?_
        obtain ⟨iB, vE, h⟩ := bsome h
        refine EL_p (ePtr vL u3 1) (P_indexAddr (α := Int) Tryz.underlying23 Tryz.sizeOf3 rfl kI rfl vE) rfl ?_
        have xL := PT_idx kI vE
        refine EL_do .plain rfl (D_load (g := cC) Tryz.isAgg3 Tryz.sizeOf3 rfl xL fun jO yL => ?_)
        obtain rfl := RV_int.1 yL
        refine EL_in (.int .i64 ((w64 (m7 + iB)))) rfl rfl rfl rfl ?_
        refine EL_at (.int .i64 ((w64 (m7 + iB)))) rfl rfl ?_
        refine EL_nil (blk_n ?_)
        obtain rfl := sinj h
        exact hQ _ _ ⟨cC, hfr, yD, rA, bI, dI, zD, rfl, dB⟩
       ·clear hx
        obtain ⟨zL, hfr, lI, mI, nI, pI, qI, sI, yE⟩ := hR
        refine E_region (EL_mv yE rfl ?_)
        refine EL_in (.int .i64 ((w64 (x5 + (1 : Int))))) rfl rfl rfl rfl ?_
        refine EL_at (.int .i64 ((w64 (x5 + (1 : Int))))) rfl rfl ?_
        exact EL_nil (thn_n (bK (l8, (w64 (x5 + (1 : Int)))) _ _ ⟨zL, hfr, lI, mI, nI, pI, qI, sI, rfl⟩ h))
     ·clear hx
      obtain ⟨nE, hfr, aE, yA, tI, uI, bE, cE⟩ := hR
      refine E_joinC h (fun (s : Unit) e w => ∃ (g : Gh) , Fr gI wI g w ∧ e 1 = p1 ∧ PT g.m w (x0 : PayTable) p1 ∧ e 3 = .int .i64 (l5) ∧ e 4 = .int .i64 (t5) ∧ e 8 = .int .i64 (u3) ∧ e 9 = .int .i64 (x6)) (fun X645 oF dK h => ?_) ?_
      ·refine E_seq (E_region (EL_mv cE rfl ?_))
       refine EL_p (fPtr p1 2) (P_fieldAddr at_58_2 aE (PT.ptr yA)) rfl ?_
       have aM := PT_field (part_PayTable_2).1 yA
       refine EL_do .plain rfl (D_load (g := nE) Tryz.isAgg23 Tryz.sizeOf23 rfl aM fun bM vI => ?_)
       refine EL_mv bE rfl ?_
       obtain ⟨eE, xE, h⟩ := bsome h
       refine EL_p (ePtr bM u3 1) (P_indexAddr (α := Int) Tryz.underlying23 Tryz.sizeOf3 rfl vI rfl xE) rfl ?_
       have cM := PT_idx vI xE
       refine EL_do .plain rfl (D_load (g := nE) Tryz.isAgg3 Tryz.sizeOf3 rfl cM fun kO dM => ?_)
       obtain rfl := RV_int.1 dM
       refine EL_in (.bool ((x6 != eE))) rfl rfl rfl rfl ?_
       refine EL_nil (thn_n ?_)
       rcases csome h with ⟨eC, h⟩ | ⟨eC, h⟩
       ·refine E_ct eC rfl ?_
        refine E_seq (E_region (EL_at (.bool false) rfl rfl ?_))
        refine EL_nil (thn_n (E_ret (thn_r ?_)))
        refine blk_r ?_
        refine thn_r ?_
        refine thn_r ?_
        refine blk_r ?_
        refine thn_r ?_
        obtain rfl := sinj h
        exact end1 rfl rfl (show _ = .bool false from rfl) ⟨_, hfr, rfl⟩
       ·refine E_cf eC rfl ?_
        exact E_skip (thn_n (dK () _ _ ⟨nE, hfr, aE, yA, tI, uI, bE, cE⟩ h))
      ·rintro _ gN lO ⟨eM, hfr, xI, yI, zI, aJ, bJ, cJ⟩ h
       refine E_region (EL_mv aJ rfl ?_)
       refine EL_mv cJ rfl ?_
       refine EL_in (.int .i64 ((w64 (t5 + x6)))) rfl rfl rfl rfl ?_
       refine EL_at (.int .i64 ((w64 (t5 + x6)))) rfl rfl ?_
       exact EL_nil (blk_n (thn_n (aK ((w64 (t5 + x6))) _ _ ⟨eM, hfr, xI, yI, zI, rfl, bJ⟩ h)))
    ·rintro d9 iN mO ⟨iM, hfr, dJ, eJ, gJ, iJ, jJ⟩ h
     refine E_region (EL_mv jJ rfl ?_)
     refine EL_in (.int .i64 ((w64 (u3 + (1 : Int))))) rfl rfl rfl rfl ?_
     refine EL_at (.int .i64 ((w64 (u3 + (1 : Int))))) rfl rfl ?_
     exact EL_nil (thn_n (yJ (d9, (w64 (u3 + (1 : Int)))) _ _ ⟨iM, hfr, dJ, eJ, gJ, iJ, rfl⟩ h))
  ·rintro i7 jN nO ⟨mC, hfr, dE, a9, kJ, lJ⟩ h
   obtain ⟨k8, hx, h⟩ := bsome h
   refine E_join (fun e w => ∃ (g : Gh) , Fr gI wI g w ∧ e 2 = .bool (k8)) (fun Q' hQ => ?_) (fun kN oO hR => ?_)
   ·replace h := hx
    clear hx
    refine E_region (EL_mv kJ rfl ?_)
    refine EL_p (fPtr p1 3) (P_fieldAddr at_58_3 dE (PT.ptr a9)) rfl ?_
    have jM := PT_field (part_PayTable_3).1 a9
    refine EL_do .plain rfl (D_load (g := mC) Tryz.isAgg3 Tryz.sizeOf3 rfl jM fun pO kM => ?_)
    obtain rfl := RV_int.1 kM
    refine EL_in (.bool ((l5 == (x0).Total))) rfl rfl rfl rfl ?_
    refine EL_mw (.bool ((l5 == (x0).Total))) rfl rfl ?_
    rcases csome h with ⟨d7, h⟩ | ⟨d7, h⟩
    ·refine EL_y (.int .i64 (i7)) (P_move lJ) rfl rfl d7 rfl ?_
     refine EL_y (fPtr p1 3) (P_fieldAddr at_58_3 dE (PT.ptr a9)) rfl rfl d7 rfl ?_
     have mM := PT_field (part_PayTable_3).1 a9
     refine EL_do (.yes2 rfl rfl d7) rfl (D_load (g := mC) Tryz.isAgg3 Tryz.sizeOf3 rfl mM fun qO nM => ?_)
     obtain rfl := RV_int.1 nM
     refine EL_y (.bool ((i7 == (x0).Total))) (P_int rfl rfl rfl) rfl rfl d7 rfl ?_
     refine EL_p (.bool ((i7 == (x0).Total))) (P_pick (b := (l5 == (x0).Total)) rfl (pick_t d7 rfl)) rfl ?_
     refine EL_at (.bool ((i7 == (x0).Total))) rfl rfl ?_
     refine EL_nil ?_
     obtain rfl := sinj h
     exact hQ _ _ ⟨mC, hfr, rfl⟩
    ·refine EL_s rfl rfl d7 rfl rfl ?_
     iterate 3 refine EL_s rfl rfl d7 rfl rfl ?_
     refine EL_p (.bool false) (P_pick (b := (l5 == (x0).Total)) rfl (pick_f d7 rfl)) rfl ?_
     refine EL_at (.bool false) rfl rfl ?_
     refine EL_nil ?_
     obtain rfl := sinj h
     exact hQ _ _ ⟨mC, hfr, rfl⟩
   ·clear hx
    obtain ⟨rO, hfr, mJ⟩ := hR
    refine E_ret ?_
    obtain rfl := sinj h
    exact end1 rfl rfl (show _ = .bool (k8) from mJ) ⟨_, hfr, rfl⟩
def f62 (x0 : PayTable) : Option (PayTable) :=
 (apnd 8 ([] : List Int) ((x0).Across)).bind fun y7 =>
 (apnd 8 ([] : List Int) ((x0).Down)).bind fun m7 =>
 Option.bind (α := PayTable) (
  lp (σ := PayTable × Int) (fun nB (t5, l5) =>
   jn (σ := Unit) (fun _ =>
    Option.bind (α := PayTable) (
     (idx ((x0).Rows) l5).bind fun oB =>
     (apnd 8 ([] : List Int) oB).bind fun tB =>
     (apnd 24 ((t5).Rows) (([tB] : List (List Int)))).bind fun rA =>
     some (({ (({ t5 with Rows := [] } : PayTable)) with Rows := rA } : PayTable))
     ) fun i7 =>
    nB (i7, (w64 (l5 + (1 : Int))))
    ) fun vB =>
   bif (decide (l5 < (((x0).Rows).length : Int))) then
    vB ()
   else
    some (t5)
   ) big ((⟨[], y7, m7, (x0).Total⟩ : PayTable), (0 : Int))
  ) fun g8 =>
 some (g8)
theorem en62 : Enters Tryz.prog 62 := enters_of Tryz.func62 (by kernel_rfl) rfl
theorem wk62 {gI : Gh} {wI : World} {x0 : PayTable} {up0 : Value} (rp0 : RV gI.m wI x0 up0) {r : PayTable} (h : f62 x0 = some r) : Fn Tryz.prog 62 #[up0] gI wI (fun m w v => RV m w (r) v) := by
 unfold f62 at h
 refine fn_of_E Tryz.func62 rfl (Nat.le_of_ble_eq_true rfl) fun g0 hm hfr => ?_
 have rp0 : RV g0.m wI x0 up0 := hm ▸ rp0
 show E _ 36 none _ _ _ _ _
 refine E_seq (E_region (EL_do .plain rfl (D_box (g := g0) rfl rp0 fun g1 w1 p1 hs q1 => ?_)))
 have hfr := hfr.ext hs
 refine EL_do .plain rfl (D_allocOc (g := g1) 2002 (⟨[], [], [], 0⟩ : PayTable) Tryz.zeroValue58 (fun m w => ⟨_, (rep_two rep_nil (rep_two rep_nil (rep_two rep_nil rep_int))), rfl⟩) fun g2 w2 p2 hs b2 cb => ?_)
 have hfr := hfr.stp hs
 have q1 := q1.stp hs
 have i6 : OSF 2002 60200 0 g2 w2 23 58 ([] : List (List Int)) p2 := cb.osf (by rfl)
 have j6 : OSF 2002 60201 1 g2 w2 3 58 ([] : List Int) p2 := cb.osf (by rfl)
 have x6 : OSF 2002 60202 2 g2 w2 3 58 ([] : List Int) p2 := cb.osf (by rfl)
 clear cb
 refine EL_nil (thn_n (E_seq ?_))
 have q4 := PT_field (part_PayTable_1).1 q1
 refine L_load (x := .tmp 6) Tryz.isAgg23 Tryz.sizeOf23 q4 fun v5 r5 sE => ?_
 obtain ⟨y7, tE, h⟩ := bsome h
 have q9 := PT_field (part_PayTable_2).1 q1
 refine L_load (x := .tmp 10) Tryz.isAgg23 Tryz.sizeOf23 q9 fun uE vE uD => ?_
 obtain ⟨m7, vD, h⟩ := bsome h
 have xE := PT_field (part_PayTable_3).1 q1
 refine L_load (x := .tmp 13) Tryz.isAgg3 Tryz.sizeOf3 xE fun hG yE xD => ?_
 obtain rfl := RV_int.1 yE
 refine E_drawL (g := g2) (n := 12) [(0, (fun v g w => RV g.m w ([] : List Int) v ∧ OS 3005 g w 3 ([] : List Int) v ∧ FullV v)), (3, (fun v g w => OA 3005 g w 3 y7 v)), (4, (fun v g w => RV g.m w ([] : List Int) v ∧ OS 3009 g w 3 ([] : List Int) v ∧ FullV v)), (7, (fun v g w => OA 3009 g w 3 m7 v)), (11, (fun v g w => OB 2003 g w 58 (⟨[], [], [], 0⟩ : PayTable) v))] [0, 1, 2, 3, 4, 5, 6, 7, 8, 9, 10, 11] rfl mixed (by kernel_rfl) (⟨fun _ => up_and up_rv (up_and up_os (up_eq _)), fun _ => up_oa, fun _ => up_and up_rv (up_and up_os (up_eq _)), fun _ => up_oa, fun _ => up_ob, trivial⟩) ?_
 refine L_do (φ := fun v g w => RV g.m w ([] : List Int) v ∧ OS 3005 g w 3 ([] : List Int) v ∧ FullV v) rfl rfl .plain (fun g w hd => D_buildSlice (g := g) 3005 (xs := ([] : List Int)) (vs := []) Tryz.underlying23 Tryz.sizeOf3 Tryz.zeroValue3 rfl rfl .nil RVs.nil rfl rfl fun g' w' v hs o r hxt hfl => ⟨g', hxt, r, o, hfl⟩) (fun v3 hv => ?_)
 clear hv
 refine L_p (fPtr p1 1) rfl rfl (P_fieldAddr at_58_1 rfl (PT.ptr q1)) ?_
 refine L_ld (c := v5) rfl rfl .plain (fun _ _ h => h.ch) sE rfl ?_
 refine L_do (φ := fun v g w => OA 3005 g w 3 y7 v) rfl rfl .plain (fun g w hd => D_appendE (g := g) plain_int (i := 3005) Tryz.underlying23 info_3 rfl rfl (word (A := fun g w => RV g.m w ([] : List Int) v3 ∧ OS 3005 g w 3 ([] : List Int) v3 ∧ FullV v3) 0 rfl rfl (deps_of hd)).2.1 (word (A := fun g w => RV g.m w ([] : List Int) v3 ∧ OS 3005 g w 3 ([] : List Int) v3 ∧ FullV v3) 0 rfl rfl (deps_of hd)).2.2 rfl (r5.ext hd.1) tE fun g' w' v hs b => ⟨g', hs, b⟩) (fun v6 hv => ?_)
 have sz6 : v6.cells.size = 1 := let ⟨_, _, _, hw⟩ := hv; OA.csz1 hw
 clear hv
 refine L_do (φ := fun v g w => RV g.m w ([] : List Int) v ∧ OS 3009 g w 3 ([] : List Int) v ∧ FullV v) rfl rfl .plain (fun g w hd => D_buildSlice (g := g) 3009 (xs := ([] : List Int)) (vs := []) Tryz.underlying23 Tryz.sizeOf3 Tryz.zeroValue3 rfl rfl .nil RVs.nil rfl rfl fun g' w' v hs o r hxt hfl => ⟨g', hxt, r, o, hfl⟩) (fun v8 hv => ?_)
 clear hv
 refine L_p (fPtr p1 2) rfl rfl (P_fieldAddr at_58_2 rfl (PT.ptr q1)) ?_
 refine L_ld (c := uE) rfl rfl .plain (fun _ _ h => h.ch) uD rfl ?_
 refine L_do (φ := fun v g w => OA 3009 g w 3 m7 v) rfl rfl .plain (fun g w hd => D_appendE (g := g) plain_int (i := 3009) Tryz.underlying23 info_3 rfl rfl (word (A := fun g w => RV g.m w ([] : List Int) v8 ∧ OS 3009 g w 3 ([] : List Int) v8 ∧ FullV v8) 4 rfl rfl (deps_of hd)).2.1 (word (A := fun g w => RV g.m w ([] : List Int) v8 ∧ OS 3009 g w 3 ([] : List Int) v8 ∧ FullV v8) 4 rfl rfl (deps_of hd)).2.2 rfl (vE.ext hd.1) vD fun g' w' v hs b => ⟨g', hs, b⟩) (fun a9 hv => ?_)
 have sz11 : a9.cells.size = 1 := let ⟨_, _, _, hw⟩ := hv; OA.csz1 hw
 clear hv
 refine L_p (fPtr p1 3) rfl rfl (P_fieldAddr at_58_3 rfl (PT.ptr q1)) ?_
 refine L_ld (c := .int .i64 ((x0).Total)) rfl rfl .plain (fun _ _ h => h.ch) xD rfl ?_
 refine L_p ((Value.agg (setCh [[.slice none 0 0], [.slice none 0 0], [.slice none 0 0], [.int .i64 0]] [(1, v6), (2, a9), (3, .int .i64 ((x0).Total))]).flatten.toArray)) rfl rfl (P_build (vs := [(1, v6), (2, a9), (3, .int .i64 ((x0).Total))]) [[.slice none 0 0], [.slice none 0 0], [.slice none 0 0], [.int .i64 0]] lay_58 rfl rfl (.cons rfl (.cons rfl (.cons rfl .nil))) ⟨⟨_, rfl, sz6⟩, ⟨⟨_, rfl, sz11⟩, ⟨⟨_, rfl, rfl⟩, trivial⟩⟩⟩) ?_
 refine L_do (φ := fun v g w => OB 2003 g w 58 (⟨[], [], [], 0⟩ : PayTable) v) rfl rfl .plain (fun g w hd => D_allocX (g := g) 2003 (⟨[], [], [], 0⟩ : PayTable) Tryz.zeroValue58 (fun m w => ⟨_, (rep_two rep_nil (rep_two rep_nil (rep_two rep_nil rep_int))), rfl⟩) fun g' w' v hs b => ⟨g', hs, b⟩) (fun zE hv => ?_)
 clear hv
 refine L_nil fun cF yB hall => ?_
 have hs := hall.1
 have hfr := hfr.ext hs
 have q1 := q1.ext hs
 have i6 := i6.ext hs
 have j6 := j6.ext hs
 have x6 := x6.ext hs
 have b2 := b2.ext hs
 have iG := (word_all (A := fun g w => RV g.m w ([] : List Int) v3 ∧ OS 3005 g w 3 ([] : List Int) v3 ∧ FullV v3) 0 rfl hall).1
 have o21 := (word_all (A := fun g w => RV g.m w ([] : List Int) v3 ∧ OS 3005 g w 3 ([] : List Int) v3 ∧ FullV v3) 0 rfl hall).2.1
 have b24 := (word_all (A := fun g w => OA 3005 g w 3 y7 v6) 3 rfl hall)
 have jG := (word_all (A := fun g w => RV g.m w ([] : List Int) v8 ∧ OS 3009 g w 3 ([] : List Int) v8 ∧ FullV v8) 4 rfl hall).1
 have o25 := (word_all (A := fun g w => RV g.m w ([] : List Int) v8 ∧ OS 3009 g w 3 ([] : List Int) v8 ∧ FullV v8) 4 rfl hall).2.1
 have b28 := (word_all (A := fun g w => OA 3009 g w 3 m7 a9) 7 rfl hall)
 have b32 := (word_all (A := fun g w => OB 2003 g w 58 (⟨[], [], [], 0⟩ : PayTable) zE) 11 rfl hall)
 clear hs hall
 obtain ⟨sk35, ow35, ok35⟩ := OA.toW b24
 obtain ⟨sk36, ow36, ok36⟩ := OA.toW b28
 have wn37 := Wn.fl (Wn.shl (y := ((x0).Total : Int)) (g := cF) (w := yB) (RV.cells (RV_int.2 rfl)) 804015)
 obtain ⟨gq38, hs, _, wn38⟩ := Wn.pair (OW.wn ow36) wn37 rfl
 have hfr := hfr.stp hs
 have q1 := q1.stp hs
 have i6 := i6.stp hs rfl
 have j6 := j6.stp hs rfl
 have x6 := x6.stp hs rfl
 have b2 := b2.stp hs rfl
 have b32 := b32.stp hs rfl
 have ow35 := ow35.stp hs rfl
 obtain ⟨gq39, hs, _, wn39⟩ := Wn.pair (OW.wn ow35) wn38 rfl
 have hfr := hfr.stp hs
 have q1 := q1.stp hs
 have i6 := i6.stp hs rfl
 have j6 := j6.stp hs rfl
 have x6 := x6.stp hs rfl
 have b2 := b2.stp hs rfl
 have b32 := b32.stp hs rfl
 obtain ⟨gq40, hs, _, wn40⟩ := Wn.pair (Wn.nil 23 (Ow.list 3 (Ow.sh Int)) 700 gq39 yB) wn39 rfl
 have hfr := hfr.stp hs
 have q1 := q1.stp hs
 have i6 := i6.stp hs rfl
 have j6 := j6.stp hs rfl
 have x6 := x6.stp hs rfl
 have b2 := b2.stp hs rfl
 have b32 := b32.stp hs rfl
 have ow34 : OW ow_PayTable 804015 gq40 yB (⟨[], y7, m7, (x0).Total⟩ : PayTable) (Sl.nil, (sk35, (sk36, ()))) (Value.agg (setCh [[.slice none 0 0], [.slice none 0 0], [.slice none 0 0], [.int .i64 0]] [(1, v6), (2, a9), (3, .int .i64 ((x0).Total))]).flatten.toArray) := Wn.mk_ (Wn.struct (x := ((⟨[], y7, m7, (x0).Total⟩ : PayTable))) wn40)
 refine EL_do .plain rfl (D_storeOW (g := gq40) Tryz.sizeOf58 rfl b32 rfl ow34 rfl fun gj41 dF kG bk41 hsa hsb hpp b41 => ?_)
 have hfr := hfr.stp hsa
 have q1 := q1.stp hsa
 have i6 := i6.stp hsa rfl
 have j6 := j6.stp hsa rfl
 have x6 := x6.stp hsa rfl
 have b2 := b2.stp hsa rfl
 have hfr := hfr.stp hsb
 have q1 := q1.stp hsb
 have i6 := i6.stp hsb rfl
 have j6 := j6.stp hsb rfl
 have x6 := x6.stp hsb rfl
 have b2 := b2.stp hsb rfl
 clear hsa hsb
 subst hpp
 refine EL_nil (thn_n ?_)
 obtain ⟨g8, hx, h⟩ := bsome h
 refine E_join (fun e w => ∃ (g : Gh) , Fr gI wI g w ∧ e 2 = p2 ∧ OB 2002 g w 58 ((⟨[], [], [], 0⟩ : PayTable) : PayTable) p2 ∧ OSF 2002 60200 0 g w 23 58 (((⟨[], [], [], 0⟩ : PayTable)).Rows) p2 ∧ OSF 2002 60201 1 g w 3 58 (((⟨[], [], [], 0⟩ : PayTable)).Across) p2 ∧ OSF 2002 60202 2 g w 3 58 (((⟨[], [], [], 0⟩ : PayTable)).Down) p2 ∧ e 3 = (Value.pointer (some ⟨bk41, 0, none⟩)) ∧ OVb ow_PayTable 2003 g w 58 (g8 : PayTable) bk41) (fun Q' hQ => ?_) (fun eF pF hR => ?_)
 ·replace h := hx
  clear hx
  refine E_seq (E_region (EL_at (.int .i64 (0)) rfl rfl ?_))
  refine EL_nil (thn_n (E_block ?_))
  refine E_lp h (fun (s : PayTable × Int) e w => ∃ (g : Gh) , Fr gI wI g w ∧ e 1 = p1 ∧ PT g.m w (x0 : PayTable) p1 ∧ e 2 = p2 ∧ OB 2002 g w 58 ((⟨[], [], [], 0⟩ : PayTable) : PayTable) p2 ∧ OSF 2002 60200 0 g w 23 58 (((⟨[], [], [], 0⟩ : PayTable)).Rows) p2 ∧ OSF 2002 60201 1 g w 3 58 (((⟨[], [], [], 0⟩ : PayTable)).Across) p2 ∧ OSF 2002 60202 2 g w 3 58 (((⟨[], [], [], 0⟩ : PayTable)).Down) p2 ∧ e 3 = (Value.pointer (some ⟨bk41, 0, none⟩)) ∧ OVb ow_PayTable 2003 g w 58 (s.1 : PayTable) bk41 ∧ e 4 = .int .i64 (s.2)) ⟨dF, hfr, rfl, q1, rfl, b2, i6, j6, x6, rfl, ⟨_, b41, (⟨trivial, ⟨ok35, ⟨ok36, trivial⟩⟩⟩ : (ow_PayTable).ok (Sl.nil, (sk35, (sk36, ()))))⟩, rfl⟩ (fun X118 nB iD => ?_)
  rintro ⟨t5, l5⟩ iF qF ⟨yA, hfr, d9, k8, k9, l9, u2_0_119, u2_1_119, u2_2_119, n9, ⟨nE, u9, n8⟩, y9⟩ h
  refine E_joinC h (fun (s : Unit) e w => ∃ (g : Gh) , Fr gI wI g w ∧ e 1 = p1 ∧ PT g.m w (x0 : PayTable) p1 ∧ e 2 = p2 ∧ OB 2002 g w 58 ((⟨[], [], [], 0⟩ : PayTable) : PayTable) p2 ∧ OSF 2002 60200 0 g w 23 58 (((⟨[], [], [], 0⟩ : PayTable)).Rows) p2 ∧ OSF 2002 60201 1 g w 3 58 (((⟨[], [], [], 0⟩ : PayTable)).Across) p2 ∧ OSF 2002 60202 2 g w 3 58 (((⟨[], [], [], 0⟩ : PayTable)).Down) p2 ∧ e 3 = (Value.pointer (some ⟨bk41, 0, none⟩)) ∧ OVb ow_PayTable 2003 g w 58 (t5 : PayTable) bk41 ∧ e 4 = .int .i64 (l5)) (fun X123 vB jD h => ?_) ?_
  ·refine E_seq (E_region (EL_mv y9 rfl ?_))
   refine EL_p (fPtr p1 0) (P_fieldAddr at_58_0 d9 (PT.ptr k8)) rfl ?_
   have yD := PT_field (part_PayTable_0).1 k8
   refine EL_do .plain rfl (D_load (g := yA) Tryz.isAgg56 Tryz.sizeOf56 rfl yD fun rF zD => ?_)
   refine EL_p (.int .i64 (((x0).Rows).length : Int)) (P_len Tryz.underlying56 rfl zD) rfl ?_
   refine EL_p (.bool ((decide (l5 < (((x0).Rows).length : Int))))) (P_int rfl rfl rfl) rfl ?_
   refine EL_nil (thn_n ?_)
   rcases csome h with ⟨r8, h⟩ | ⟨r8, h⟩
   ·refine E_ct r8 rfl ?_
    exact E_skip (thn_n (jD () _ _ ⟨yA, hfr, d9, k8, k9, l9, u2_0_119, u2_1_119, u2_2_119, n9, ⟨_, u9, n8⟩, y9⟩ h))
   ·refine E_cf r8 rfl ?_
    refine E_exit ?_
    refine thn_e ?_
    refine thn_e ?_
    refine blk_hit ?_
    obtain rfl := sinj h
    exact hQ _ _ ⟨yA, hfr, k9, l9, u2_0_119, u2_1_119, u2_2_119, n9, ⟨_, u9, n8⟩⟩
  ·rintro _ nF aE ⟨zB, hfr, z9, o0, cC, u3, u2_0_127, u2_1_127, u2_2_127, l8, ⟨y6, x5, d7⟩, bA⟩ h
   obtain ⟨i7, hx, h⟩ := bsome h
   refine E_join (fun e w => ∃ (g : Gh) , Fr gI wI g w ∧ e 1 = p1 ∧ PT g.m w (x0 : PayTable) p1 ∧ e 2 = p2 ∧ OB 2002 g w 58 ((⟨[], [], [], 0⟩ : PayTable) : PayTable) p2 ∧ OSF 2002 60200 0 g w 23 58 (((⟨[], [], [], 0⟩ : PayTable)).Rows) p2 ∧ OSF 2002 60201 1 g w 3 58 (((⟨[], [], [], 0⟩ : PayTable)).Across) p2 ∧ OSF 2002 60202 2 g w 3 58 (((⟨[], [], [], 0⟩ : PayTable)).Down) p2 ∧ e 3 = (Value.pointer (some ⟨bk41, 0, none⟩)) ∧ OVb ow_PayTable 2003 g w 58 (i7 : PayTable) bk41 ∧ e 4 = .int .i64 (l5)) (fun Q' hQ => ?_) (fun oF sF hR => ?_)
   ·replace h := hx
    clear hx
    refine E_block ?_
    refine L_loadH (x := .tmp 23) (Cxt.fld (Cxt.root ow_PayTable bk41) fl_PayTable_0 (t5) (y6)) rfl rfl (d7.1) Tryz.isAgg56 x5 fun lD => ?_
    have aB := PT_field (part_PayTable_0).1 o0
    refine L_load (x := .tmp 26) Tryz.isAgg56 Tryz.sizeOf56 aB fun eC x8 mD => ?_
    obtain ⟨oB, jB, h⟩ := bsome h
    have dB := PT_idx x8 jB
    refine L_load (x := .tmp 29) Tryz.isAgg23 Tryz.sizeOf23 dB fun bE iB nD => ?_
    obtain ⟨tB, oD, h⟩ := bsome h
    refine E_drawC (g := zB) (w := aE) (n := 10) [0, 1, 3, 4, 5, 6, 7] [2003] [0, 1, 2, 3, 4, 5, 6, 7, 8, 9] rfl mixed (by kernel_rfl) fun w_c172 hs hlt => ?_
    have hfr := hfr.ext hs
    have o0 := o0.ext hs
    have u2_0_127 := u2_0_127.ext hs
    have u2_1_127 := u2_1_127.ext hs
    have u2_2_127 := u2_2_127.ext hs
    have u3 := u3.ext hs
    have x5 := x5.ext hs
    clear hs
    refine CH_pur (c := (.pointer (some ⟨bk41, (0 + 0), none⟩))) rfl rfl .plain (P_fieldAddrH at_58_0 l8) ?_
    refine CH_ldO (n := 2003) (c := (hdrV (Prod.fst y6) ((t5).Rows).length)) rfl rfl .plain lD rfl rfl ?_
    refine CH_do rfl rfl .plain (D_buildSlice (g := zB) 3025 (xs := ([] : List Int)) (vs := []) Tryz.underlying23 Tryz.sizeOf3 Tryz.zeroValue3 rfl rfl .nil RVs.nil rfl rfl fun cE tF uF hs o176 vF hxt hfl => ?_)
    have hfr := hfr.stp hs
    have hlt := hlt.stp hs
    have o0 := o0.stp hs
    have u2_0_127 := u2_0_127.stp hs rfl
    have u2_1_127 := u2_1_127.stp hs rfl
    have u2_2_127 := u2_2_127.stp hs rfl
    have u3 := u3.stp hs rfl
    have x5 := x5.stp hs rfl
    refine ⟨hlt.toW, ?_⟩
    refine CH_pur (c := fPtr p1 0) rfl rfl .plain (P_fieldAddr at_58_0 z9 (PT.ptr o0)) ?_
    have aB := aB.ch hlt.1
    refine CH_ldP (c := eC) rfl rfl .plain mD rfl ?_
    have x8 := x8.ch hlt.1
    refine CH_pur (c := .int .i64 (l5)) rfl rfl .plain (P_move bA) ?_
    refine CH_pur (c := ePtr eC l5 1) rfl rfl .plain (P_indexAddr (α := List Int) Tryz.underlying56 Tryz.sizeOf23 rfl x8 rfl jB) ?_
    have dB := dB.ch hlt.1
    refine CH_ldP (c := bE) rfl rfl .plain nD rfl ?_
    have iB := iB.ch hlt.1
    have oa182 := OA.ofOS o176
    refine CH_do rfl rfl .plain (D_appendA (g := cE) plain_int (i := 3025) Tryz.underlying23 info_3 rfl rfl oa182 rfl iB oD fun dE xF yF hs b182 => ?_)
    have hfr := hfr.stp hs
    have hlt := hlt.stp hs
    have o0 := o0.stp hs
    have u2_0_127 := u2_0_127.stp hs rfl
    have u2_1_127 := u2_1_127.stp hs rfl
    have u2_2_127 := u2_2_127.stp hs rfl
    have u3 := u3.stp hs rfl
    have x5 := x5.stp hs rfl
    refine ⟨hlt.toW, ?_⟩
    obtain ⟨sk184, ow184, ok184⟩ := OA.toW b182
    refine CH_do rfl rfl .plain (D_buildSliceW (g := dE) (E := (Ow.list 3 (Ow.sh Int))) Tryz.underlying56 Tryz.sizeOf23 Tryz.zeroValue23 rfl rfl rfl rfl ow184 ok184 fun zF eE b184 hs bw184 bk184 => ?_)
    have hfr := hfr.stp hs
    have hlt := hlt.stp hs
    have o0 := o0.stp hs
    have u2_0_127 := u2_0_127.stp hs rfl
    have u2_1_127 := u2_1_127.stp hs rfl
    have u2_2_127 := u2_2_127.stp hs rfl
    have u3 := u3.stp hs rfl
    have x5 := x5.stp hs rfl
    refine ⟨hlt.toW, ?_⟩
    refine CH_nil ?_
    clear hlt
    obtain ⟨gt185, hs, b185, wt185⟩ := OV.take x5 (Cxt.fld (Cxt.root ow_PayTable bk41) fl_PayTable_0 (t5) (y6)) rfl rfl (d7.1) 704185 rfl
    have hfr := hfr.stp hs
    have o0 := o0.stp hs
    have u2_0_127 := u2_0_127.stp hs rfl
    have u2_1_127 := u2_1_127.stp hs rfl
    have u2_2_127 := u2_2_127.stp hs rfl
    have u3 := u3.stp hs rfl
    have bw184 := bw184.stp hs rfl
    replace b185 : OV ow_PayTable 2003 gt185 eE 58 (({ t5 with Rows := [] } : PayTable) : PayTable) bk41 (Sl.hole, Prod.snd y6) := b185
    obtain ⟨rA, sD, h⟩ := bsome h
    refine EL_do .plain rfl (D_appendW (g := gt185) Tryz.underlying56 info_23 rfl rfl wt185 (d7.1) rfl bw184 bk184 (by exact Nat.le_refl 1) rfl sD fun gm186 iE aG bG sk186 hs hs2 bw186 bk186 => ?_)
    have hfr := hfr.stp hs
    have o0 := o0.stp hs
    have u2_0_127 := u2_0_127.stp hs rfl
    have u2_1_127 := u2_1_127.stp hs rfl
    have u2_2_127 := u2_2_127.stp hs rfl
    have u3 := u3.stp hs rfl
    have b185 := b185.stp hs rfl
    clear hs
    have hs := hs2
    have hfr := hfr.stp hs
    have o0 := o0.stp hs
    have u2_0_127 := u2_0_127.stp hs rfl
    have u2_1_127 := u2_1_127.stp hs rfl
    have u2_2_127 := u2_2_127.stp hs rfl
    have u3 := u3.stp hs rfl
    have b185 := b185.stp hs rfl
    clear hs2
    refine EL_p ((.pointer (some ⟨bk41, (0 + 0), none⟩))) (P_fieldAddrH at_58_0 l8) rfl ?_
    refine EL_do .plain rfl (D_storeW (g := iE) (Cxt.fld (Cxt.root ow_PayTable bk41) fl_PayTable_0 (({ t5 with Rows := [] } : PayTable)) ((Sl.hole, Prod.snd y6))) rfl rfl Tryz.sizeOf56 rfl b185 rfl bw186 rfl fun gj191 mC jE hsa hsb b191 => ?_)
    have hfr := hfr.stp hsa
    have o0 := o0.stp hsa
    have u2_0_127 := u2_0_127.stp hsa rfl
    have u2_1_127 := u2_1_127.stp hsa rfl
    have u2_2_127 := u2_2_127.stp hsa rfl
    have u3 := u3.stp hsa rfl
    have hfr := hfr.stp hsb
    have o0 := o0.stp hsb
    have u2_0_127 := u2_0_127.stp hsb rfl
    have u2_1_127 := u2_1_127.stp hsb rfl
    have u2_2_127 := u2_2_127.stp hsb rfl
    have u3 := u3.stp hsb rfl
    clear hsa hsb
    replace b191 : OV ow_PayTable 2003 mC jE 58 (({ (({ t5 with Rows := [] } : PayTable)) with Rows := rA } : PayTable) : PayTable) bk41 (sk186, Prod.snd (Sl.hole, Prod.snd y6)) := b191
    refine EL_nil (blk_n ?_)
    obtain rfl := sinj h
    exact hQ _ _ ⟨mC, hfr, z9, o0, cC, u3, u2_0_127, u2_1_127, u2_2_127, l8, ⟨_, b191, ⟨bk186, ⟨((d7.2).1), ⟨(((d7.2).2).1), (((d7.2).2).2)⟩⟩⟩⟩, bA⟩
   ·clear hx
    obtain ⟨kE, hfr, qC, rC, uC, vC, u2_0_192, u2_1_192, u2_2_192, aD, ⟨oE, bD, lB⟩, cD⟩ := hR
    refine E_region (EL_mv cD rfl ?_)
    refine EL_in (.int .i64 ((w64 (l5 + (1 : Int))))) rfl rfl rfl rfl ?_
    refine EL_at (.int .i64 ((w64 (l5 + (1 : Int))))) rfl rfl ?_
    exact EL_nil (thn_n (iD (i7, (w64 (l5 + (1 : Int)))) _ _ ⟨kE, hfr, qC, rC, uC, vC, u2_0_192, u2_1_192, u2_2_192, aD, ⟨_, bD, lB⟩, rfl⟩ h))
 ·clear hx
  obtain ⟨cG, hfr, iA, m8, u2_0_193, u2_1_193, u2_2_193, eD, ⟨rE, gD, mB⟩⟩ := hR
  refine E_seq (E_region ?_)
  obtain ⟨go195, hs, b195⟩ := OV.toOB gD mB
  have hfr := hfr.stp hs
  have m8 := m8.stp hs rfl
  refine EL_do .plain rfl (D_loadO (g := go195) Tryz.isAgg58 Tryz.sizeOf58 eD b195 fun lE mE => ?_)
  refine EL_do .plain rfl (D_storeOc (g := go195) (v := lE) Tryz.sizeOf58 iA m8 rfl mE fun eG gG hs b197 cb => ?_)
  clear cb
  have hfr := hfr.stp hs
  refine EL_nil (thn_n (E_ret ?_))
  obtain rfl := sinj h
  obtain ⟨ad198, cv198, hp198, tD, cr198⟩ := ob_read Tryz.isAgg58 Tryz.sizeOf58 b197
  exact endm_c rfl rfl ((show _ = p2 from iA).trans hp198) tD ⟨_, hfr, cr198⟩
def f70 (x0 : Int) : Option (Bool) :=
 some ((x0 != (0 : Int)))
theorem en70 : Enters Tryz.prog 70 := enters_of Tryz.func70 (by kernel_rfl) rfl
theorem wk70 {gI : Gh} {wI : World} {x0 : Int}  {r : Bool} (h : f70 x0 = some r) : Fn Tryz.prog 70 #[.int .i64 (x0)] gI wI (fun _ _ v => v = .bool (r)) := by
 unfold f70 at h
 refine fn_of_E Tryz.func70 rfl (Nat.le_of_ble_eq_true rfl) fun g0 hm hfr => ?_
 show E _ 5 none _ _ _ _ _
 refine E_seq (E_region (EL_at (.bool false) rfl rfl ?_))
 refine EL_nil (thn_n (E_seq (E_region (EL_mw (.int .i64 (x0)) rfl rfl ?_))))
 refine EL_in (.bool ((x0 != (0 : Int)))) rfl rfl rfl rfl ?_
 refine EL_at (.bool ((x0 != (0 : Int)))) rfl rfl ?_
 refine EL_nil (thn_n (E_ret ?_))
 obtain rfl := sinj h
 exact end1 rfl rfl (show _ = .bool ((x0 != (0 : Int))) from rfl) ⟨_, hfr, rfl⟩
end Go.Proofs.YtkmbkaoolacofaaGreat
