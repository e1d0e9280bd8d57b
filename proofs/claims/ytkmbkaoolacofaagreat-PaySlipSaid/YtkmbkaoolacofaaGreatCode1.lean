import Derived.Test.YtkmbkaoolacofaaGreatTypes
import Derived.Test.YtkmbkaoolacofaaGreatKn
import Derived.Test.YtkmbkaoolacofaaGreatMap
import Derived.Test.YtkmbkaoolacofaaGreatProg
import Derived.Test.YtkmbkaoolacofaaGreatIter
set_option maxRecDepth 8000
set_option maxHeartbeats 4000000
namespace Go.Proofs.YtkmbkaoolacofaaGreat
open Go.RowKit
theorem info_3 : (Tryz.prog.info? 3).map (fun i => (i.zero, i.size, i.bytes)) = some (some (.int .i64 0), 1, 8) := by kernel_rfl
@[reducible] def ow_PayTable : Ow PayTable := Ow.struct (fun (x : PayTable) => (x.Rows, x.Across, x.Down, x.Total)) (Ow.pair (Ow.list 23 (Ow.list 3 (Ow.sh Int))) (Ow.pair (Ow.list 3 (Ow.sh Int)) (Ow.pair (Ow.list 3 (Ow.sh Int)) (Ow.sh Int))))
theorem fw_ow_PayTable : (ow_PayTable).free := free_struct (free_pair (free_list 23 (free_list 3 (free_sh plain_int))) (free_pair (free_list 3 (free_sh plain_int)) (free_pair (free_list 3 (free_sh plain_int)) (free_sh plain_int))))
theorem mixed : Tryz.prog.follows .mixedOrders = true := by kernel_rfl
theorem endm_c {P : Program} {e : Env} {ds : List Deferred} {w : World} {fn : Func} {R : Value → World → Prop} {t0 : Tmp} {v0 : Value} {y0 : TypeId} {a0 : Addr} (hres : fn.results = #[.cell t0 y0]) (hd : ds = []) (h0 : e t0 = .pointer (some a0)) (l0 : (loadVar y0 a0).run P w = .ok v0 w) (h : R v0 w) : atEnd P fn R .ret e ds w :=
 ⟨hd, fun tmps ht => ⟨_, by simp [results, hres, ht, asAddr, h0, l0], h⟩⟩
theorem lay_58 : layoutOf Tryz.prog 58 = some ([.slice none 0 0, .slice none 0 0, .slice none 0 0, .int .i64 0], [(0, 1), (1, 1), (2, 1), (3, 1)]) := by kernel_rfl
theorem fl_PayTable_2 : Fl ow_PayTable (Ow.list 3 (Ow.sh Int)) 2 (fun (x : PayTable) y => { x with Down := y }) (fun (q : (ow_PayTable).S) (r : ((Ow.list 3 (Ow.sh Int))).S) => ((Prod.fst q), ((Prod.fst (Prod.snd q)), (r, (Prod.snd (Prod.snd (Prod.snd q))))))) := Fl.of _ (Fl.comp Prod.snd Prod.snd (Fl.snd _ _) (Fl.comp Prod.snd Prod.snd (Fl.snd _ _) (Fl.fst _ _) rfl) rfl) (fun _ _ => rfl)
theorem fl_PayTable_0 : Fl ow_PayTable (Ow.list 23 (Ow.list 3 (Ow.sh Int))) 0 (fun (x : PayTable) y => { x with Rows := y }) (fun (q : (ow_PayTable).S) (r : ((Ow.list 23 (Ow.list 3 (Ow.sh Int)))).S) => (r, (Prod.snd q))) := Fl.of _ (Fl.fst _ _) (fun _ _ => rfl)
theorem fl_PayTable_1 : Fl ow_PayTable (Ow.list 3 (Ow.sh Int)) 1 (fun (x : PayTable) y => { x with Across := y }) (fun (q : (ow_PayTable).S) (r : ((Ow.list 3 (Ow.sh Int))).S) => ((Prod.fst q), (r, (Prod.snd (Prod.snd q))))) := Fl.of _ (Fl.comp Prod.snd Prod.snd (Fl.snd _ _) (Fl.fst _ _) rfl) (fun _ _ => rfl)
theorem info_23 : (Tryz.prog.info? 23).map (fun i => (i.zero, i.size, i.bytes)) = some (some (.slice none 0 0), 1, 24) := by kernel_rfl
theorem fl_PayTable_3 : Fl ow_PayTable (Ow.sh Int) 3 (fun (x : PayTable) y => { x with Total := y }) (fun (q : (ow_PayTable).S) (r : ((Ow.sh Int)).S) => ((Prod.fst q), ((Prod.fst (Prod.snd q)), ((Prod.fst (Prod.snd (Prod.snd q))), r)))) := Fl.of _ (Fl.comp Prod.snd Prod.snd (Fl.snd _ _) (Fl.comp Prod.snd Prod.snd (Fl.snd _ _) (Fl.comp Prod.snd Prod.snd (Fl.snd _ _) (Fl.id_ _) rfl) rfl) rfl) (fun _ _ => rfl)
theorem capf_0_2 {e : Env} {f : FuncId} {o0 : Operand} {u3 : Operand} {b0 : Value} {b1 : Value} (hb0 : ev e o0 = b0) (hb1 : ev e u3 = b1) : (Value.func (.func f) ((#[] : Array Operand).map (ev e)) ((#[o0, u3] : Array Operand).map (ev e))) = .func (.func f) #[] #[b0, b1] := by simp [hb0, hb1]
theorem lay_132 : layoutOf Tryz.prog 132 = some ([.slice none 0 0, .slice none 0 0, .slice none 0 0, .int .i64 0], [(0, 4)]) := by kernel_rfl
theorem lay_100 : layoutOf Tryz.prog 100 = some ([.int .i64 0, .int .i64 0, .int .i64 0, .int .i64 0], [(0, 1), (1, 1), (2, 1), (3, 1)]) := by kernel_rfl
theorem capf_0_1 {e : Env} {f : FuncId} {o0 : Operand} {b0 : Value} (hb0 : ev e o0 = b0) : (Value.func (.func f) ((#[] : Array Operand).map (ev e)) ((#[o0] : Array Operand).map (ev e))) = .func (.func f) #[] #[b0] := by simp [hb0]
theorem lay_165 : layoutOf Tryz.prog 165 = some ([.int .i64 0, .int .i64 0], [(0, 1), (1, 1)]) := by kernel_rfl
theorem info_165 : (Tryz.prog.info? 165).map (fun i => (i.zero, i.size, i.bytes)) = some (some (.agg #[.int .i64 0, .int .i64 0]), 2, 16) := by kernel_rfl
theorem endm_ct {P : Program} {e : Env} {ds : List Deferred} {w : World} {fn : Func} {R : Value → World → Prop} {t0 : Tmp} {v0 : Value} {y0 : TypeId} {a0 : Addr} {t1 : Tmp} {v1 : Value} (hres : fn.results = #[.cell t0 y0, .tmp t1]) (hd : ds = []) (h0 : e t0 = .pointer (some a0)) (l0 : (loadVar y0 a0).run P w = .ok v0 w) (h1 : e t1 = v1) (h : R (.tuple #[v0, v1]) w) : atEnd P fn R .ret e ds w :=
 ⟨hd, fun tmps ht => ⟨_, by simp [results, hres, ht, asAddr, h0, l0, h1], h⟩⟩
theorem fl_100 : Tryz.prog.fieldsOf 100 = #[{ name := "Kind", type := 98, offset := 0, embedded := false, tag := "", pkgPath := "", byteOffset := 0 }, { name := "Row", type := 3, offset := 1, embedded := false, tag := "", pkgPath := "", byteOffset := 8 }, { name := "Column", type := 3, offset := 2, embedded := false, tag := "", pkgPath := "", byteOffset := 16 }, { name := "Number", type := 3, offset := 3, embedded := false, tag := "", pkgPath := "", byteOffset := 24 }] := by kernel_rfl
theorem seq_100 : SEq (α := PayEntry) Tryz.prog 100 := by
 intro d x y w a b m wx m2 wy hx hy
 obtain ⟨_, ⟨_, _, rfl, rfl, ⟨_, _, rfl, rfl, ⟨_, _, rfl, rfl, rfl⟩⟩⟩, rfl⟩ := hx
 obtain ⟨_, ⟨_, _, rfl, rfl, ⟨_, _, rfl, rfl, ⟨_, _, rfl, rfl, rfl⟩⟩⟩, rfl⟩ := hy
 refine (run_equalIn_struct w (d + 1) 100 _ _ (by kernel_rfl) (by kernel_rfl)).trans ?_
 rw [fl_100]
 obtain ⟨x0, x1, x2, x3⟩ := x
 obtain ⟨y0, y1, y2, y3⟩ := y
 show (Op.eqFields (d + 1) #[.int .i64 (x0), .int .i64 (x1), .int .i64 (x2), .int .i64 (x3)] #[.int .i64 (y0), .int .i64 (y1), .int .i64 (y2), .int .i64 (y3)] _).run _ _ = _
 have x0p : (part 98 #[.int .i64 (x0), .int .i64 (x1), .int .i64 (x2), .int .i64 (x3)] 0).run Tryz.prog w = .ok (.int .i64 (x0)) w := part_one Tryz.isAgg98 rfl
 have x1p : (part 3 #[.int .i64 (x0), .int .i64 (x1), .int .i64 (x2), .int .i64 (x3)] 1).run Tryz.prog w = .ok (.int .i64 (x1)) w := part_one Tryz.isAgg3 rfl
 have x2p : (part 3 #[.int .i64 (x0), .int .i64 (x1), .int .i64 (x2), .int .i64 (x3)] 2).run Tryz.prog w = .ok (.int .i64 (x2)) w := part_one Tryz.isAgg3 rfl
 have x3p : (part 3 #[.int .i64 (x0), .int .i64 (x1), .int .i64 (x2), .int .i64 (x3)] 3).run Tryz.prog w = .ok (.int .i64 (x3)) w := part_one Tryz.isAgg3 rfl
 have y0p : (part 98 #[.int .i64 (y0), .int .i64 (y1), .int .i64 (y2), .int .i64 (y3)] 0).run Tryz.prog w = .ok (.int .i64 (y0)) w := part_one Tryz.isAgg98 rfl
 have y1p : (part 3 #[.int .i64 (y0), .int .i64 (y1), .int .i64 (y2), .int .i64 (y3)] 1).run Tryz.prog w = .ok (.int .i64 (y1)) w := part_one Tryz.isAgg3 rfl
 have y2p : (part 3 #[.int .i64 (y0), .int .i64 (y1), .int .i64 (y2), .int .i64 (y3)] 2).run Tryz.prog w = .ok (.int .i64 (y2)) w := part_one Tryz.isAgg3 rfl
 have y3p : (part 3 #[.int .i64 (y0), .int .i64 (y1), .int .i64 (y2), .int .i64 (y3)] 3).run Tryz.prog w = .ok (.int .i64 (y3)) w := part_one Tryz.isAgg3 rfl
 simp only [Op.eqFields, Sem.run_bind, Sem.run_ite, Sem.run_pure, x0p, x1p, x2p, x3p, y0p, y1p, y2p, y3p, Result.andThen_ok, run_equalIn_int _ _ _ _ _ _ _ Tryz.underlying98, run_equalIn_int _ _ _ _ _ _ _ Tryz.underlying3]
 simp
 grind
theorem eg_100 : Tryz.prog.eqGuardType Tryz.prog.depth 100 = false := by kernel_rfl
def f12 : Option Bool := some true
theorem en12 : Enters Tryz.prog 12 := enters_of Tryz.func12 (by kernel_rfl) rfl
theorem wk12 {gI : Gh} {wI : World} {r : Bool} (h : f12 = some r) : Fn Tryz.prog 12 #[] gI wI (fun _ _ v => v = .bool (r)) := by
 injection h with h
 subst h
 exact wkK12
def f40 (x0 : Sheet) : Option (PayTable) :=
 (rem64 (((x0).Columns).toNat : Int) (6 : Int)).bind fun y5 =>
 (mka 8 (0 : Int) ((w64 ((1 : Int) + y5)))).bind fun y6 =>
 Option.bind (α := PayTable) (
  lp (σ := PayTable × Int) (fun oH (mB, m7) =>
   jn (σ := Unit) (fun _ =>
    Option.bind (α := PayTable) (
     Option.bind (α := PayTable × (List Int) × Int) (
      lp (σ := PayTable × (List Int) × Int × Int) (fun pH (x5, aB, u9, i6) =>
       jn (σ := Unit) (fun _ =>
        Option.bind (α := PayTable × (List Int) × Int) (
         Option.bind (α := Int) (
          bif (decide ((((x0).Amounts).length : Int) > (0 : Int))) then
           (rem64 (w64 ((w64 ((6 : Int) * m7)) + i6)) (((x0).Amounts).length : Int)).bind fun mE =>
           (idx ((x0).Amounts) mE).bind fun rC =>
           some (((rC).toNat : Int))
          else
           some ((7 : Int))
          ) fun l8 =>
         (apnd 8 aB (([l8] : List Int))).bind fun qH =>
         (idx ((x5).Down) i6).bind fun uC =>
         some (({ x5 with Down := (List.set ((x5).Down) (Int.toNat i6) (w64 (uC + l8))) } : PayTable), qH, (w64 (u9 + l8)))
         ) fun (nB, oB, tB) =>
        pH (nB, oB, tB, (w64 (i6 + (1 : Int))))
        ) fun sH =>
       bif (decide (i6 < (((x5).Down).length : Int))) then
        sH ()
       else
        some (x5, aB, u9)
       ) big (mB, ([] : List Int), (0 : Int), (0 : Int))
      ) fun (l5, iD, i7) =>
     (apnd 24 ((l5).Rows) (([iD] : List (List Int)))).bind fun m8 =>
     (apnd 8 ((l5).Across) (([i7] : List Int))).bind fun n9 =>
     some (({ (({ (({ (({ (({ l5 with Rows := [] } : PayTable)) with Across := [] } : PayTable)) with Rows := m8 } : PayTable)) with Across := n9 } : PayTable)) with Total := (w64 ((({ (({ l5 with Rows := [] } : PayTable)) with Across := [] } : PayTable)).Total + i7)) } : PayTable))
     ) fun vB =>
    oH (vB, (w64 (m7 + (1 : Int))))
    ) fun tH =>
   (rem64 (((x0).Rows).toNat : Int) (6 : Int)).bind fun nE =>
   bif (decide (m7 ≤ nE)) then
    tH ()
   else
    some (mB)
   ) big ((⟨[], [], y6, 0⟩ : PayTable), (0 : Int))
  ) fun jD =>
 some (jD)
theorem en40 : Enters Tryz.prog 40 := enters_of Tryz.func40 (by kernel_rfl) rfl
theorem wk40 {gI : Gh} {wI : World} {x0 : Sheet} {up0 : Value} (rp0 : RV gI.m wI x0 up0) {r : PayTable} (h : f40 x0 = some r) : Fn Tryz.prog 40 #[up0] gI wI (fun m w v => RV m w (r) v) := by
 unfold f40 at h
 refine fn_of_E Tryz.func40 rfl (Nat.le_of_ble_eq_true rfl) fun g0 hm hfr => ?_
 have rp0 : RV g0.m wI x0 up0 := hm ▸ rp0
 show E _ 82 none _ _ _ _ _
 refine E_seq (E_region (EL_do .plain rfl (D_box (g := g0) rfl rp0 fun g1 w1 p1 hs q1 => ?_)))
 have hfr := hfr.ext hs
 refine EL_do .plain rfl (D_allocOc (g := g1) 2002 (⟨[], [], [], 0⟩ : PayTable) Tryz.zeroValue58 (fun m w => ⟨_, (rep_two rep_nil (rep_two rep_nil (rep_two rep_nil rep_int))), rfl⟩) fun g2 w2 p2 hs b2 cb => ?_)
 have hfr := hfr.stp hs
 have q1 := q1.stp hs
 have a9 : OSF 2002 60200 0 g2 w2 23 58 ([] : List (List Int)) p2 := cb.osf (by rfl)
 have d9 : OSF 2002 60201 1 g2 w2 3 58 ([] : List Int) p2 := cb.osf (by rfl)
 have k9 : OSF 2002 60202 2 g2 w2 3 58 ([] : List Int) p2 := cb.osf (by rfl)
 clear cb
 refine EL_nil (thn_n (E_seq (E_region (EL_p (fPtr p1 1) (P_fieldAddr at_94_1 rfl (PT.ptr q1)) rfl ?_))))
 have q3 := PT_field (part_Sheet_1).1 q1
 refine EL_do .plain rfl (D_load (g := g2) Tryz.isAgg5 Tryz.sizeOf5 rfl q3 fun v4 r4 => ?_)
 obtain rfl := RV_u8.1 r4
 refine EL_p (.int .i64 ((((x0).Columns).toNat : Int))) (P_u8int Tryz.underlying5 Tryz.underlying3 rfl) rfl ?_
 obtain ⟨y5, hy5, h⟩ := bsome h
 refine EL_p (.int .i64 (y5)) (P_int rfl rfl (congrArg (Option.map (Value.int .i64)) hy5)) rfl ?_
 refine EL_in (.int .i64 ((w64 ((1 : Int) + y5)))) rfl rfl rfl rfl ?_
 obtain ⟨y6, uM, h⟩ := bsome h
 refine EL_do .plain rfl (D_makeSliceA (g := g2) 4014 (0 : Int) Tryz.underlying23 info_3 rfl (fun m w => ⟨_, rep_int, rfl⟩) rfl rfl uM fun g7 w7 v7 hs b7 => ?_)
 have hfr := hfr.stp hs
 have q1 := q1.stp hs
 have a9 := a9.stp hs rfl
 have d9 := d9.stp hs rfl
 have k9 := k9.stp hs rfl
 have b2 := b2.stp hs rfl
 obtain ⟨sk9, ow9, ok9⟩ := OA.toW b7
 have wn10 := Wn.fl (Wn.shl (y := (0 : Int)) (g := g7) (w := w7) (rep_int) 804015)
 obtain ⟨gq11, hs, _, wn11⟩ := Wn.pair (OW.wn ow9) wn10 rfl
 have hfr := hfr.stp hs
 have q1 := q1.stp hs
 have a9 := a9.stp hs rfl
 have d9 := d9.stp hs rfl
 have k9 := k9.stp hs rfl
 have b2 := b2.stp hs rfl
 obtain ⟨gq12, hs, _, wn12⟩ := Wn.pair (Wn.nil 3 (Ow.sh Int) 701 gq11 w7) wn11 rfl
 have hfr := hfr.stp hs
 have q1 := q1.stp hs
 have a9 := a9.stp hs rfl
 have d9 := d9.stp hs rfl
 have k9 := k9.stp hs rfl
 have b2 := b2.stp hs rfl
 obtain ⟨gq13, hs, _, wn13⟩ := Wn.pair (Wn.nil 23 (Ow.list 3 (Ow.sh Int)) 700 gq12 w7) wn12 rfl
 have hfr := hfr.stp hs
 have q1 := q1.stp hs
 have a9 := a9.stp hs rfl
 have d9 := d9.stp hs rfl
 have k9 := k9.stp hs rfl
 have b2 := b2.stp hs rfl
 obtain ⟨v8, nM⟩ : ∃ v, v = (Value.agg (setCh [[.slice none 0 0], [.slice none 0 0], [.slice none 0 0], [.int .i64 0]] [(2, v7)]).flatten.toArray) := ⟨_, rfl⟩
 have ow8 : OW ow_PayTable 804015 gq13 w7 (⟨[], [], y6, 0⟩ : PayTable) (Sl.nil, (Sl.nil, (sk9, ()))) v8 := nM ▸ Wn.mk_ (Wn.struct (x := ((⟨[], [], y6, 0⟩ : PayTable))) wn13)
 refine EL_p v8 (nM ▸ P_build (vs := [(2, v7)]) [[.slice none 0 0], [.slice none 0 0], [.slice none 0 0], [.int .i64 0]] lay_58 rfl rfl (.cons rfl .nil) ⟨⟨_, rfl, OW.csz ow9⟩, trivial⟩) rfl ?_
 refine EL_do .plain rfl (D_allocOc (g := gq13) 2003 (⟨[], [], [], 0⟩ : PayTable) Tryz.zeroValue58 (fun m w => ⟨_, (rep_two rep_nil (rep_two rep_nil (rep_two rep_nil rep_int))), rfl⟩) fun uH nK oK hs b14 cb => ?_)
 have hfr := hfr.stp hs
 have q1 := q1.stp hs
 have a9 := a9.stp hs rfl
 have d9 := d9.stp hs rfl
 have k9 := k9.stp hs rfl
 have b2 := b2.stp hs rfl
 have ow8 := ow8.stp hs rfl
 have lN : OSF 2003 60300 0 uH nK 23 58 ([] : List (List Int)) oK := cb.osf (by rfl)
 have mN : OSF 2003 60301 1 uH nK 3 58 ([] : List Int) oK := cb.osf (by rfl)
 have nN : OSF 2003 60302 2 uH nK 3 58 ([] : List Int) oK := cb.osf (by rfl)
 clear cb
 refine EL_do .plain rfl (D_storeOW (g := uH) Tryz.sizeOf58 rfl b14 rfl ow8 rfl fun gj15 vM w15 bk15 hsa hsb hpp b15 => ?_)
 have hfr := hfr.stp hsa
 have q1 := q1.stp hsa
 have a9 := a9.stp hsa rfl
 have d9 := d9.stp hsa rfl
 have k9 := k9.stp hsa rfl
 have b2 := b2.stp hsa rfl
 have hfr := hfr.stp hsb
 have q1 := q1.stp hsb
 have a9 := a9.stp hsb rfl
 have d9 := d9.stp hsb rfl
 have k9 := k9.stp hsb rfl
 have b2 := b2.stp hsb rfl
 clear hsa hsb
 subst hpp
 refine EL_nil (thn_n ?_)
 obtain ⟨jD, hx, h⟩ := bsome h
 refine E_join (fun e w => ∃ (g : Gh) , Fr gI wI g w ∧ e 2 = p2 ∧ OB 2002 g w 58 ((⟨[], [], [], 0⟩ : PayTable) : PayTable) p2 ∧ OSF 2002 60200 0 g w 23 58 (((⟨[], [], [], 0⟩ : PayTable)).Rows) p2 ∧ OSF 2002 60201 1 g w 3 58 (((⟨[], [], [], 0⟩ : PayTable)).Across) p2 ∧ OSF 2002 60202 2 g w 3 58 (((⟨[], [], [], 0⟩ : PayTable)).Down) p2 ∧ e 3 = (Value.pointer (some ⟨bk15, 0, none⟩)) ∧ OVb ow_PayTable 2003 g w 58 (jD : PayTable) bk15) (fun Q' hQ => ?_) (fun xM oN hR => ?_)
 ·replace h := hx
  clear hx
  refine E_seq (E_region (EL_at (.int .i64 (0)) rfl rfl ?_))
  refine EL_nil (thn_n (E_block ?_))
  refine E_lp h (fun (s : PayTable × Int) e w => ∃ (g : Gh) , Fr gI wI g w ∧ e 1 = p1 ∧ PT g.m w (x0 : Sheet) p1 ∧ e 2 = p2 ∧ OB 2002 g w 58 ((⟨[], [], [], 0⟩ : PayTable) : PayTable) p2 ∧ OSF 2002 60200 0 g w 23 58 (((⟨[], [], [], 0⟩ : PayTable)).Rows) p2 ∧ OSF 2002 60201 1 g w 3 58 (((⟨[], [], [], 0⟩ : PayTable)).Across) p2 ∧ OSF 2002 60202 2 g w 3 58 (((⟨[], [], [], 0⟩ : PayTable)).Down) p2 ∧ e 3 = (Value.pointer (some ⟨bk15, 0, none⟩)) ∧ OVb ow_PayTable 2003 g w 58 (s.1 : PayTable) bk15 ∧ e 4 = .int .i64 (s.2)) ⟨vM, hfr, rfl, q1, rfl, b2, a9, d9, k9, rfl, ⟨_, b15, (⟨trivial, ⟨trivial, ⟨ok9, trivial⟩⟩⟩ : (ow_PayTable).ok (Sl.nil, (Sl.nil, (sk9, ()))))⟩, rfl⟩ (fun X3130 oH pK => ?_)
  rintro ⟨mB, m7⟩ bN pN ⟨zG, hfr, eF, lD, rF, sF, u2_0_3131, u2_1_3131, u2_2_3131, tF, ⟨oM, uF, rE⟩, vF⟩ h
  refine E_joinC h (fun (s : Unit) e w => ∃ (g : Gh) , Fr gI wI g w ∧ e 1 = p1 ∧ PT g.m w (x0 : Sheet) p1 ∧ e 2 = p2 ∧ OB 2002 g w 58 ((⟨[], [], [], 0⟩ : PayTable) : PayTable) p2 ∧ OSF 2002 60200 0 g w 23 58 (((⟨[], [], [], 0⟩ : PayTable)).Rows) p2 ∧ OSF 2002 60201 1 g w 3 58 (((⟨[], [], [], 0⟩ : PayTable)).Across) p2 ∧ OSF 2002 60202 2 g w 3 58 (((⟨[], [], [], 0⟩ : PayTable)).Down) p2 ∧ e 3 = (Value.pointer (some ⟨bk15, 0, none⟩)) ∧ OVb ow_PayTable 2003 g w 58 (mB : PayTable) bk15 ∧ e 4 = .int .i64 (m7)) (fun X3136 tH qK h => ?_) ?_
  ·refine E_seq (E_region (EL_mv vF rfl ?_))
   refine EL_p (fPtr p1 0) (P_fieldAddr at_94_0 eF (PT.ptr lD)) rfl ?_
   have iL := PT_field (part_Sheet_0).1 lD
   refine EL_do .plain rfl (D_load (g := zG) Tryz.isAgg5 Tryz.sizeOf5 rfl iL fun qN jL => ?_)
   obtain rfl := RV_u8.1 jL
   refine EL_p (.int .i64 ((((x0).Rows).toNat : Int))) (P_u8int Tryz.underlying5 Tryz.underlying3 rfl) rfl ?_
   obtain ⟨nE, sK, h⟩ := bsome h
   refine EL_p (.int .i64 (nE)) (P_int rfl rfl (congrArg (Option.map (Value.int .i64)) sK)) rfl ?_
   refine EL_in (.bool ((decide (m7 ≤ nE)))) rfl rfl rfl rfl ?_
   refine EL_nil (thn_n ?_)
   rcases csome h with ⟨uE, h⟩ | ⟨uE, h⟩
   ·refine E_ct uE rfl ?_
    exact E_skip (thn_n (qK () _ _ ⟨zG, hfr, eF, lD, rF, sF, u2_0_3131, u2_1_3131, u2_2_3131, tF, ⟨_, uF, rE⟩, vF⟩ h))
   ·refine E_cf uE rfl ?_
    refine E_exit ?_
    refine thn_e ?_
    refine thn_e ?_
    refine blk_hit ?_
    obtain rfl := sinj h
    exact hQ _ _ ⟨zG, hfr, rF, sF, u2_0_3131, u2_1_3131, u2_2_3131, tF, ⟨_, uF, rE⟩⟩
  ·rintro _ cN rN ⟨lL, hfr, nI, nD, pI, oD, u2_0_3141, u2_1_3141, u2_2_3141, qI, ⟨pM, sD, kH⟩, sI⟩ h
   obtain ⟨vB, hx, h⟩ := bsome h
   refine E_join (fun e w => ∃ (g : Gh) , Fr gI wI g w ∧ e 1 = p1 ∧ PT g.m w (x0 : Sheet) p1 ∧ e 2 = p2 ∧ OB 2002 g w 58 ((⟨[], [], [], 0⟩ : PayTable) : PayTable) p2 ∧ OSF 2002 60200 0 g w 23 58 (((⟨[], [], [], 0⟩ : PayTable)).Rows) p2 ∧ OSF 2002 60201 1 g w 3 58 (((⟨[], [], [], 0⟩ : PayTable)).Across) p2 ∧ OSF 2002 60202 2 g w 3 58 (((⟨[], [], [], 0⟩ : PayTable)).Down) p2 ∧ e 3 = (Value.pointer (some ⟨bk15, 0, none⟩)) ∧ OVb ow_PayTable 2003 g w 58 (vB : PayTable) bk15 ∧ e 4 = .int .i64 (m7)) (fun Q' hQ => ?_) (fun dN sN hR => ?_)
   ·replace h := hx
    clear hx
    refine E_block ?_
    refine E_seq (E_region (EL_do .plain rfl (D_buildSliceA (g := lL) 4005 (xs := ([] : List Int)) (vs := []) Tryz.underlying23 Tryz.sizeOf3 Tryz.zeroValue3 rfl rfl .nil RVs.nil rfl rfl fun mL tN xH hs b4692 _ => ?_)))
    have hfr := hfr.stp hs
    have nD := nD.stp hs
    have u2_0_3141 := u2_0_3141.stp hs rfl
    have u2_1_3141 := u2_1_3141.stp hs rfl
    have u2_2_3141 := u2_2_3141.stp hs rfl
    have oD := oD.stp hs rfl
    have sD := sD.stp hs rfl
    refine EL_at xH rfl rfl ?_
    refine EL_at (.int .i64 (0)) rfl rfl ?_
    refine EL_nil (thn_n ?_)
    obtain ⟨⟨l5, iD, i7⟩, hx, h⟩ := bsome h
    refine E_join (fun e w => ∃ (g : Gh) (v5 : Value), Fr gI wI g w ∧ e 1 = p1 ∧ PT g.m w (x0 : Sheet) p1 ∧ e 2 = p2 ∧ OB 2002 g w 58 ((⟨[], [], [], 0⟩ : PayTable) : PayTable) p2 ∧ OSF 2002 60200 0 g w 23 58 (((⟨[], [], [], 0⟩ : PayTable)).Rows) p2 ∧ OSF 2002 60201 1 g w 3 58 (((⟨[], [], [], 0⟩ : PayTable)).Across) p2 ∧ OSF 2002 60202 2 g w 3 58 (((⟨[], [], [], 0⟩ : PayTable)).Down) p2 ∧ e 3 = (Value.pointer (some ⟨bk15, 0, none⟩)) ∧ OVb ow_PayTable 2003 g w 58 (l5 : PayTable) bk15 ∧ e 4 = .int .i64 (m7) ∧ e 5 = v5 ∧ OA 4005 g w 3 (iD : List Int) v5 ∧ e 6 = .int .i64 (i7)) (fun Q' hQ => ?_) (fun eN aH hR => ?_)
    ·replace h := hx
     clear hx
     refine E_seq (E_region (EL_at (.int .i64 (0)) rfl rfl ?_))
     refine EL_nil (thn_n (E_block ?_))
     refine E_lp h (fun (s : PayTable × (List Int) × Int × Int) e w => ∃ (g : Gh) (v5 : Value), Fr gI wI g w ∧ e 1 = p1 ∧ PT g.m w (x0 : Sheet) p1 ∧ e 2 = p2 ∧ OB 2002 g w 58 ((⟨[], [], [], 0⟩ : PayTable) : PayTable) p2 ∧ OSF 2002 60200 0 g w 23 58 (((⟨[], [], [], 0⟩ : PayTable)).Rows) p2 ∧ OSF 2002 60201 1 g w 3 58 (((⟨[], [], [], 0⟩ : PayTable)).Across) p2 ∧ OSF 2002 60202 2 g w 3 58 (((⟨[], [], [], 0⟩ : PayTable)).Down) p2 ∧ e 3 = (Value.pointer (some ⟨bk15, 0, none⟩)) ∧ OVb ow_PayTable 2003 g w 58 (s.1 : PayTable) bk15 ∧ e 4 = .int .i64 (m7) ∧ e 5 = v5 ∧ OA 4005 g w 3 (s.2.1 : List Int) v5 ∧ e 6 = .int .i64 (s.2.2.1) ∧ e 7 = .int .i64 (s.2.2.2)) ⟨mL, (xH), hfr, nI, nD, pI, oD, u2_0_3141, u2_1_3141, u2_2_3141, qI, ⟨_, sD, kH⟩, sI, rfl, b4692, rfl, rfl⟩ (fun X4882 pH tK => ?_)
     rintro ⟨x5, aB, u9, i6⟩ gN uN ⟨cH, dB, hfr, xF, yF, zF, aG, u2_0_4883, u2_1_4883, u2_2_4883, tD, ⟨vE, yB, lB⟩, bG, cG, eG, gG, hG⟩ h
     refine E_joinC h (fun (s : Unit) e w => ∃ (g : Gh) , Fr gI wI g w ∧ e 1 = p1 ∧ PT g.m w (x0 : Sheet) p1 ∧ e 2 = p2 ∧ OB 2002 g w 58 ((⟨[], [], [], 0⟩ : PayTable) : PayTable) p2 ∧ OSF 2002 60200 0 g w 23 58 (((⟨[], [], [], 0⟩ : PayTable)).Rows) p2 ∧ OSF 2002 60201 1 g w 3 58 (((⟨[], [], [], 0⟩ : PayTable)).Across) p2 ∧ OSF 2002 60202 2 g w 3 58 (((⟨[], [], [], 0⟩ : PayTable)).Down) p2 ∧ e 3 = (Value.pointer (some ⟨bk15, 0, none⟩)) ∧ OVb ow_PayTable 2003 g w 58 (x5 : PayTable) bk15 ∧ e 4 = .int .i64 (m7) ∧ e 5 = dB ∧ OA 4005 g w 3 (aB : List Int) dB ∧ e 6 = .int .i64 (u9) ∧ e 7 = .int .i64 (i6)) (fun X4889 sH uK h => ?_) ?_
     ·refine E_seq (E_region (EL_mv hG rfl ?_))
      refine EL_p ((.pointer (some ⟨bk15, (0 + 2), none⟩))) (P_fieldAddrH at_58_2 tD) rfl ?_
      refine EL_do .plain rfl (D_loadH (g := cH) (Cxt.fld (Cxt.root ow_PayTable bk15) fl_PayTable_2 (x5) (vE)) rfl rfl (((lB.2).2).1) Tryz.isAgg23 rfl yB ?_)
      have hz4893 := (OV.slice yB (Cxt.fld (Cxt.root ow_PayTable bk15) fl_PayTable_2 (x5) (vE)) rfl rfl (((lB.2).2).1)).1
      refine EL_p (.int .i64 (((x5).Down).length : Int)) (P_lenH Tryz.underlying23 rfl hz4893) rfl ?_
      refine EL_p (.bool ((decide (i6 < (((x5).Down).length : Int))))) (P_int rfl rfl rfl) rfl ?_
      refine EL_nil (thn_n ?_)
      rcases csome h with ⟨xE, h⟩ | ⟨xE, h⟩
      ·refine E_ct xE rfl ?_
       exact E_skip (thn_n (uK () _ _ ⟨cH, hfr, xF, yF, zF, aG, u2_0_4883, u2_1_4883, u2_2_4883, tD, ⟨_, yB, lB⟩, bG, cG, eG, gG, hG⟩ h))
      ·refine E_cf xE rfl ?_
       refine E_exit ?_
       refine thn_e ?_
       refine thn_e ?_
       refine blk_hit ?_
       obtain ⟨rfl, rfl, rfl⟩ := pairs3 h
       exact hQ _ _ ⟨cH, (dB), hfr, xF, yF, zF, aG, u2_0_4883, u2_1_4883, u2_2_4883, tD, ⟨_, yB, lB⟩, bG, cG, eG, gG⟩
     ·rintro _ iN vN ⟨dH, hfr, iB, r8, iG, zB, u2_0_4895, u2_1_4895, u2_2_4895, jG, ⟨qM, cC, yE⟩, uD, kG, mC, lG, vD⟩ h
      obtain ⟨⟨nB, oB, tB⟩, hx, h⟩ := bsome h
      refine E_join (fun e w => ∃ (g : Gh) (v5 : Value), Fr gI wI g w ∧ e 1 = p1 ∧ PT g.m w (x0 : Sheet) p1 ∧ e 2 = p2 ∧ OB 2002 g w 58 ((⟨[], [], [], 0⟩ : PayTable) : PayTable) p2 ∧ OSF 2002 60200 0 g w 23 58 (((⟨[], [], [], 0⟩ : PayTable)).Rows) p2 ∧ OSF 2002 60201 1 g w 3 58 (((⟨[], [], [], 0⟩ : PayTable)).Across) p2 ∧ OSF 2002 60202 2 g w 3 58 (((⟨[], [], [], 0⟩ : PayTable)).Down) p2 ∧ e 3 = (Value.pointer (some ⟨bk15, 0, none⟩)) ∧ OVb ow_PayTable 2003 g w 58 (nB : PayTable) bk15 ∧ e 4 = .int .i64 (m7) ∧ e 5 = v5 ∧ OA 4005 g w 3 (oB : List Int) v5 ∧ e 6 = .int .i64 (tB) ∧ e 7 = .int .i64 (i6)) (fun Q' hQ => ?_) (fun jN xN hR => ?_)
      ·replace h := hx
       clear hx
       refine E_block ?_
       refine E_seq (E_region (EL_at (.int .i64 (7)) rfl rfl ?_))
       refine EL_nil (thn_n ?_)
       obtain ⟨l8, hx, h⟩ := bsome h
       refine E_join (fun e w => ∃ (g : Gh) , Fr gI wI g w ∧ e 1 = p1 ∧ PT g.m w (x0 : Sheet) p1 ∧ e 2 = p2 ∧ OB 2002 g w 58 ((⟨[], [], [], 0⟩ : PayTable) : PayTable) p2 ∧ OSF 2002 60200 0 g w 23 58 (((⟨[], [], [], 0⟩ : PayTable)).Rows) p2 ∧ OSF 2002 60201 1 g w 3 58 (((⟨[], [], [], 0⟩ : PayTable)).Across) p2 ∧ OSF 2002 60202 2 g w 3 58 (((⟨[], [], [], 0⟩ : PayTable)).Down) p2 ∧ e 3 = (Value.pointer (some ⟨bk15, 0, none⟩)) ∧ OVb ow_PayTable 2003 g w 58 (x5 : PayTable) bk15 ∧ e 4 = .int .i64 (m7) ∧ e 5 = dB ∧ OA 4005 g w 3 (aB : List Int) dB ∧ e 6 = .int .i64 (u9) ∧ e 7 = .int .i64 (i6) ∧ e 8 = .int .i64 (l8)) (fun Q' hQ => ?_) (fun kN yN hR => ?_)
       ·replace h := hx
        clear hx
        refine E_seq (E_region (EL_p (fPtr p1 2) (P_fieldAddr at_94_2 iB (PT.ptr r8)) rfl ?_))
        have nL := PT_field (part_Sheet_2).1 r8
        refine EL_do .plain rfl (D_load (g := dH) Tryz.isAgg91 Tryz.sizeOf91 rfl nL fun zN oL => ?_)
        refine EL_p (.int .i64 (((x0).Amounts).length : Int)) (P_len Tryz.underlying91 rfl oL) rfl ?_
        refine EL_p (.bool ((decide ((((x0).Amounts).length : Int) > (0 : Int))))) (P_int rfl rfl rfl) rfl ?_
        refine EL_nil (thn_n ?_)
        rcases csome h with ⟨zE, h⟩ | ⟨zE, h⟩
        ·refine E_ct zE rfl ?_
         have pL := PT_field (part_Sheet_2).1 r8
         refine L_load (x := .tmp 36) Tryz.isAgg91 Tryz.sizeOf91 pL fun yH zH vK => ?_
         have qL := PT_field (part_Sheet_2).1 r8
         refine L_load (x := .tmp 42) Tryz.isAgg91 Tryz.sizeOf91 qL fun rL tL xK => ?_
         obtain ⟨mE, yK, h⟩ := bsome h
         obtain ⟨rC, iH, h⟩ := bsome h
         have uL := PT_idx zH iH
         refine L_load (x := .tmp 46) Tryz.isAgg81 Tryz.sizeOf81 uL fun aO vL zK => ?_
         obtain rfl := RV_u16.1 vL
         refine E_drawL (g := dH) (n := 14) [] [0, 1, 2, 3, 4, 5, 6, 7, 8, 9, 10, 11, 12, 13] rfl mixed (by kernel_rfl) trivial ?_
         refine L_p (fPtr p1 2) rfl rfl (P_fieldAddr at_94_2 iB (PT.ptr r8)) ?_
         refine L_ld (c := yH) rfl rfl .plain (fun _ _ h => h.ch) vK rfl ?_
         refine L_p (.int .i64 (m7)) rfl rfl (P_move uD) ?_
         refine L_p (.int .i64 ((w64 ((6 : Int) * m7)))) rfl rfl (P_int rfl rfl rfl) ?_
         refine L_p (.int .i64 (i6)) rfl rfl (P_move vD) ?_
         refine L_p (.int .i64 ((w64 ((w64 ((6 : Int) * m7)) + i6)))) rfl rfl (P_int rfl rfl rfl) ?_
         refine L_p (fPtr p1 2) rfl rfl (P_fieldAddr at_94_2 iB (PT.ptr r8)) ?_
         refine L_ld (c := rL) rfl rfl .plain (fun _ _ h => h.ch) xK rfl ?_
         refine L_p (.int .i64 (((x0).Amounts).length : Int)) rfl rfl (P_len Tryz.underlying91 rfl tL) ?_
         refine L_p (.int .i64 (mE)) rfl rfl (P_int rfl rfl (congrArg (Option.map (Value.int .i64)) yK)) ?_
         refine L_p (ePtr yH mE 1) rfl rfl (P_indexAddr (α := UInt16) Tryz.underlying91 Tryz.sizeOf81 rfl zH rfl iH) ?_
         refine L_ld (c := .int .u16 (UInt16.toNat (rC))) rfl rfl .plain (fun _ _ h => h.ch) zK rfl ?_
         refine L_p (.int .i64 (((rC).toNat : Int))) rfl rfl (P_u16int Tryz.underlying81 Tryz.underlying3 rfl) ?_
         refine L_p (.int .i64 (((rC).toNat : Int))) rfl rfl (P_assign rfl) ?_
         refine L_nl fun xL bO hs => ?_
         have hfr := hfr.ext hs
         have r8 := r8.ext hs
         have u2_0_4895 := u2_0_4895.ext hs
         have u2_1_4895 := u2_1_4895.ext hs
         have u2_2_4895 := u2_2_4895.ext hs
         have zB := zB.ext hs
         have cC := cC.ext hs
         have mC := mC.ext hs
         clear hs
         refine EL_nil ?_
         obtain rfl := sinj h
         exact hQ _ _ ⟨xL, hfr, iB, r8, iG, zB, u2_0_4895, u2_1_4895, u2_2_4895, jG, ⟨_, cC, yE⟩, uD, kG, mC, lG, vD, rfl⟩
        ·refine E_cf zE rfl ?_
         refine E_skip ?_
         obtain rfl := sinj h
         exact hQ _ _ ⟨dH, hfr, iB, r8, iG, zB, u2_0_4895, u2_1_4895, u2_2_4895, jG, ⟨_, cC, yE⟩, uD, kG, mC, lG, vD, rfl⟩
       ·clear hx
        obtain ⟨yL, hfr, tI, y9, uI, z9, u2_0_5057, u2_1_5057, u2_2_5057, mG, ⟨x6, l9, qC⟩, vI, yI, xD, zI, sG, yD⟩ := hR
        refine E_seq (E_region (EL_mv yI rfl ?_))
        refine EL_mv yD rfl ?_
        refine EL_do .plain rfl (D_buildSlice (g := yL) 3051 (xs := ([l8] : List Int)) (vs := [.int .i64 (l8)]) Tryz.underlying23 Tryz.sizeOf3 Tryz.zeroValue3 rfl rfl (.cons rfl .nil) (RVs.cons (RV_int.2 rfl) RVs.nil) rfl rfl fun zL cO dO hs o5058 aM hxt hfl => ?_)
        have hfr := hfr.stp hs
        have y9 := y9.stp hs
        have u2_0_5057 := u2_0_5057.stp hs rfl
        have u2_1_5057 := u2_1_5057.stp hs rfl
        have u2_2_5057 := u2_2_5057.stp hs rfl
        have z9 := z9.stp hs rfl
        have l9 := l9.stp hs rfl
        have xD := xD.stp hs rfl
        obtain ⟨qH, aL, h⟩ := bsome h
        refine EL_do .plain rfl (D_appendA (g := zL) plain_int (i := 4005) Tryz.underlying23 info_3 rfl rfl xD rfl aM aL fun gH eO aI hs b5059 => ?_)
        have hfr := hfr.stp hs
        have y9 := y9.stp hs
        have u2_0_5057 := u2_0_5057.stp hs rfl
        have u2_1_5057 := u2_1_5057.stp hs rfl
        have u2_2_5057 := u2_2_5057.stp hs rfl
        have z9 := z9.stp hs rfl
        have l9 := l9.stp hs rfl
        refine EL_mv zI rfl ?_
        refine EL_mv yD rfl ?_
        refine EL_in (.int .i64 ((w64 (u9 + l8)))) rfl rfl rfl rfl ?_
        refine EL_at aI rfl rfl ?_
        refine EL_at (.int .i64 ((w64 (u9 + l8)))) rfl rfl ?_
        refine EL_nil (thn_n (E_region (EL_p ((.pointer (some ⟨bk15, (0 + 2), none⟩))) (P_fieldAddrH at_58_2 mG) rfl ?_)))
        refine EL_do .plain rfl (D_loadH (g := gH) (Cxt.fld (Cxt.root ow_PayTable bk15) fl_PayTable_2 (x5) (x6)) rfl rfl (((qC.2).2).1) Tryz.isAgg23 rfl l9 ?_)
        refine EL_mv sG rfl ?_
        obtain ⟨uC, bA, h⟩ := bsome h
        obtain ⟨bb5065, cc5065, ss5065, hq5065, jH⟩ := (OV.slice l9 (Cxt.fld (Cxt.root ow_PayTable bk15) fl_PayTable_2 (x5) (x6)) rfl rfl (((qC.2).2).1)).2 bA
        refine EL_p ((.pointer (some ⟨bb5065, ((Int.toNat i6) * 1), none⟩))) (P_indexH Tryz.underlying23 Tryz.sizeOf3 (rfl.trans (hdr_at hq5065 _)) rfl (idx_nat bA)) rfl ?_
        refine EL_do .plain rfl (D_loadV (g := gH) (Cxt.idx (Cxt.fld (Cxt.root ow_PayTable bk15) fl_PayTable_2 (x5) (x6)) ((x5).Down) (Int.toNat i6) bb5065 cc5065 ss5065 (idx_nat bA).2 jH) ((congrArg (fun q => ({ x5 with Down := q } : PayTable)) (set_idx bA)).trans rfl) (((congrArg (fun q => ((Prod.fst x6), ((Prod.fst (Prod.snd x6)), ((Sl.at bb5065 cc5065 q), (Prod.snd (Prod.snd (Prod.snd x6))))))) set_unit).trans (congrArg (fun q => ((Prod.fst x6), ((Prod.fst (Prod.snd x6)), (q, (Prod.snd (Prod.snd (Prod.snd x6))))))) (hq5065).symm)).trans rfl) Tryz.isAgg3 Tryz.sizeOf3 rfl l9 fun gO bM => ?_)
        obtain rfl := RV_int.1 bM
        refine EL_mv yD rfl ?_
        refine EL_in (.int .i64 ((w64 (uC + l8)))) rfl rfl rfl rfl ?_
        refine EL_p ((.pointer (some ⟨bb5065, ((Int.toNat i6) * 1), none⟩))) (P_indexH Tryz.underlying23 Tryz.sizeOf3 (rfl.trans (hdr_at hq5065 _)) rfl (idx_nat bA)) rfl ?_
        refine EL_do .plain rfl (D_storeOV (g := gH) (u' := ((w64 (uC + l8)) : Int)) (Cxt.idx (Cxt.fld (Cxt.root ow_PayTable bk15) fl_PayTable_2 (x5) (x6)) ((x5).Down) (Int.toNat i6) bb5065 cc5065 ss5065 (idx_nat bA).2 jH) ((congrArg (fun q => ({ x5 with Down := q } : PayTable)) (set_idx bA)).trans rfl) (((congrArg (fun q => ((Prod.fst x6), ((Prod.fst (Prod.snd x6)), ((Sl.at bb5065 cc5065 q), (Prod.snd (Prod.snd (Prod.snd x6))))))) set_unit).trans (congrArg (fun q => ((Prod.fst x6), ((Prod.fst (Prod.snd x6)), (q, (Prod.snd (Prod.snd (Prod.snd x6))))))) (hq5065).symm)).trans rfl) Tryz.sizeOf3 rfl l9 rfl (RV_int.2 rfl) fun bI cM hs b5069 => ?_)
        have hfr := hfr.stp hs
        have y9 := y9.stp hs
        have u2_0_5057 := u2_0_5057.stp hs rfl
        have u2_1_5057 := u2_1_5057.stp hs rfl
        have u2_2_5057 := u2_2_5057.stp hs rfl
        have z9 := z9.stp hs rfl
        have b5059 := b5059.stp hs rfl
        replace b5069 : OV ow_PayTable 2003 bI cM 58 (({ x5 with Down := (List.set ((x5).Down) (Int.toNat i6) (w64 (uC + l8))) } : PayTable) : PayTable) bk15 x6 := b5069
        refine EL_nil (blk_n ?_)
        obtain ⟨rfl, rfl, rfl⟩ := pairs3 h
        exact hQ _ _ ⟨bI, (aI), hfr, tI, y9, uI, z9, u2_0_5057, u2_1_5057, u2_2_5057, mG, ⟨_, b5069, qC⟩, vI, rfl, b5059, rfl, sG⟩
      ·clear hx
       obtain ⟨dM, eJ, hfr, gJ, iJ, jJ, kJ, u2_0_5070, u2_1_5070, u2_2_5070, lJ, ⟨rM, mJ, lH⟩, nJ, oJ, pJ, qJ, rJ⟩ := hR
       refine E_region (EL_mv rJ rfl ?_)
       refine EL_in (.int .i64 ((w64 (i6 + (1 : Int))))) rfl rfl rfl rfl ?_
       refine EL_at (.int .i64 ((w64 (i6 + (1 : Int))))) rfl rfl ?_
       exact EL_nil (thn_n (tK (nB, oB, tB, (w64 (i6 + (1 : Int)))) _ _ ⟨dM, (eJ), hfr, gJ, iJ, jJ, kJ, u2_0_5070, u2_1_5070, u2_2_5070, lJ, ⟨_, mJ, lH⟩, nJ, oJ, pJ, qJ, rfl⟩ h))
    ·clear hx
     obtain ⟨iO, sJ, hfr, zD, o0, aE, u3, u2_0_5071, u2_1_5071, u2_2_5071, k8, ⟨t5, bE, g8⟩, iE, vJ, x8, xG⟩ := hR
     have hd5072 := OV.hdrCell bE (Cxt.fld (Cxt.root ow_PayTable bk15) fl_PayTable_0 (l5) (t5)) rfl rfl (g8.1)
     have hd5073 := OV.hdrCell bE (Cxt.fld (Cxt.root ow_PayTable bk15) fl_PayTable_1 (l5) (t5)) rfl rfl ((g8.2).1)
     obtain ⟨gt5074, hs, b5074, wt5074⟩ := OV.take bE (Cxt.fld (Cxt.root ow_PayTable bk15) fl_PayTable_0 (l5) (t5)) rfl rfl (g8.1) 709074 rfl
     have hfr := hfr.stp hs
     have o0 := o0.stp hs
     have u2_0_5071 := u2_0_5071.stp hs rfl
     have u2_1_5071 := u2_1_5071.stp hs rfl
     have u2_2_5071 := u2_2_5071.stp hs rfl
     have u3 := u3.stp hs rfl
     have x8 := x8.stp hs rfl
     replace b5074 : OV ow_PayTable 2003 gt5074 aH 58 (({ l5 with Rows := [] } : PayTable) : PayTable) bk15 (Sl.hole, (Prod.snd t5)) := b5074
     obtain ⟨gt5075, hs, b5075, wt5075⟩ := OV.take b5074 (Cxt.fld (Cxt.root ow_PayTable bk15) fl_PayTable_1 (({ l5 with Rows := [] } : PayTable)) ((Sl.hole, (Prod.snd t5)))) rfl rfl ((g8.2).1) 709075 rfl
     have oa5075 := OW.toA wt5075 ((g8.2).1)
     clear wt5075
     have hfr := hfr.stp hs
     have o0 := o0.stp hs
     have u2_0_5071 := u2_0_5071.stp hs rfl
     have u2_1_5071 := u2_1_5071.stp hs rfl
     have u2_2_5071 := u2_2_5071.stp hs rfl
     have u3 := u3.stp hs rfl
     have x8 := x8.stp hs rfl
     have wt5074 := wt5074.stp hs rfl
     replace b5075 : OV ow_PayTable 2003 gt5075 aH 58 (({ (({ l5 with Rows := [] } : PayTable)) with Across := [] } : PayTable) : PayTable) bk15 (Sl.hole, (Sl.hole, (Prod.snd (Prod.snd t5)))) := b5075
     refine L_loadT (x := .tmp 64) hd5072 Tryz.isAgg56 b5075 fun bL => ?_
     obtain ⟨m8, cF, h⟩ := bsome h
     refine L_loadT (x := .tmp 69) hd5073 Tryz.isAgg23 b5075 fun dL => ?_
     obtain ⟨n9, dF, h⟩ := bsome h
     refine L_loadV (x := .tmp 74) (Cxt.fld (Cxt.root ow_PayTable bk15) fl_PayTable_3 (({ (({ l5 with Rows := [] } : PayTable)) with Across := [] } : PayTable)) ((Sl.hole, (Sl.hole, (Prod.snd (Prod.snd t5)))))) rfl rfl Tryz.isAgg3 Tryz.sizeOf3 b5075 fun jO eM eL => ?_
     obtain rfl := RV_int.1 eM
     refine E_drawT_ (g := gt5075) (w := aH) (n := 18) [0, 2, 5, 7, 10, 12, 13, 14, 16] [1, 6, 11] [2003] [] 15 (.step 0 (.step 1 (.step 2 (.step 5 (.step 6 (.step 7 (.step 10 (.step 11 (.step 12 (.step 13 (.alt 3 (.alt 4 (.step 14 (.step 8 (.step 9 (.step 15 (.step 16 (.step 17 .done)))))) (.alt 8 (.step 4 (.step 14 (.step 9 (.step 15 (.step 16 (.step 17 .done)))))) .stop)) (.alt 8 (.step 3 (.step 4 (.step 14 (.step 9 (.step 15 (.step 16 (.step 17 .done))))))) .stop)))))))))))) mixed (by kernel_rfl) rfl fun w_c5076 hs hlt => ?_
     have hfr := hfr.ext hs
     have o0 := o0.ext hs
     have u2_0_5071 := u2_0_5071.ext hs
     have u2_1_5071 := u2_1_5071.ext hs
     have u2_2_5071 := u2_2_5071.ext hs
     have u3 := u3.ext hs
     have b5075 := b5075.ext hs
     have x8 := x8.ext hs
     have wt5074 := wt5074.ext hs
     have oa5075 := oa5075.ext hs
     clear hs
     refine CT_pur (c := (.pointer (some ⟨bk15, (0 + 0), none⟩))) rfl rfl .plain (P_fieldAddrH at_58_0 k8) ?_
     refine CT_ldO true (n := 2003) (c := (hdrV (Prod.fst t5) ((l5).Rows).length)) rfl rfl .plain bL rfl rfl ?_
     refine CT_pur (c := sJ) rfl rfl .plain (P_move vJ) ?_
     refine CT_pur (c := (.pointer (some ⟨bk15, (0 + 1), none⟩))) rfl rfl .plain (P_fieldAddrH at_58_1 k8) ?_
     refine CT_ldO true (n := 2003) (c := (hdrV (Prod.fst (Prod.snd t5)) ((l5).Across).length)) rfl rfl .plain dL rfl rfl ?_
     refine CT_pur (c := .int .i64 (i7)) rfl rfl .plain (P_move xG) ?_
     refine CT_pur (c := (.pointer (some ⟨bk15, (0 + 3), none⟩))) rfl rfl .plain (P_fieldAddrH at_58_3 k8) ?_
     refine CT_ldO true (n := 2003) (c := .int .i64 ((({ (({ l5 with Rows := [] } : PayTable)) with Across := [] } : PayTable)).Total)) rfl rfl .plain eL rfl rfl ?_
     refine CT_pur (c := .int .i64 (i7)) rfl rfl .plain (P_move xG) ?_
     refine CT_pur (c := .int .i64 ((w64 ((({ (({ l5 with Rows := [] } : PayTable)) with Across := [] } : PayTable)).Total + i7)))) rfl rfl .plain (P_int rfl rfl rfl) ?_
     refine CT_alt ?_ (CT_alt ?_ CT_stop)
     ·obtain ⟨sk5279, ow5279, ok5279⟩ := OA.toW x8
      refine CT_do [2003] rfl rfl rfl .plain (D_buildSliceW (g := gt5075) (E := (Ow.list 3 (Ow.sh Int))) Tryz.underlying56 Tryz.sizeOf23 Tryz.zeroValue23 rfl rfl rfl rfl ow5279 ok5279 fun oE iM b5279 hs bw5279 bk5279 => ?_)
      have hfr := hfr.stp hs
      have hlt := hlt.stp hs
      have o0 := o0.stp hs
      have u2_0_5071 := u2_0_5071.stp hs rfl
      have u2_1_5071 := u2_1_5071.stp hs rfl
      have u2_2_5071 := u2_2_5071.stp hs rfl
      have u3 := u3.stp hs rfl
      have b5075 := b5075.stp hs rfl
      have wt5074 := wt5074.stp hs rfl
      have oa5075 := oa5075.stp hs rfl
      refine ⟨hlt.toW, ?_⟩
      refine CT_alt ?_ (CT_alt ?_ CT_stop)
      ·refine CT_do [2003] rfl rfl rfl .plain (D_appendW (g := oE) Tryz.underlying56 info_23 rfl rfl wt5074 (g8.1) rfl bw5279 bk5279 (by exact Nat.le_refl 1) rfl cF fun gm5339 vC dI iI sk5339 hs hs2 bw5339 bk5339 => ?_)
       have hfr := hfr.stp hs
       have hlt := hlt.stp hs
       have o0 := o0.stp hs
       have u2_0_5071 := u2_0_5071.stp hs rfl
       have u2_1_5071 := u2_1_5071.stp hs rfl
       have u2_2_5071 := u2_2_5071.stp hs rfl
       have u3 := u3.stp hs rfl
       have b5075 := b5075.stp hs rfl
       have oa5075 := oa5075.stp hs rfl
       clear hs
       have hs := hs2
       have hfr := hfr.stp hs
       have hlt := hlt.stp hs
       have o0 := o0.stp hs
       have u2_0_5071 := u2_0_5071.stp hs rfl
       have u2_1_5071 := u2_1_5071.stp hs rfl
       have u2_2_5071 := u2_2_5071.stp hs rfl
       have u3 := u3.stp hs rfl
       have b5075 := b5075.stp hs rfl
       have oa5075 := oa5075.stp hs rfl
       clear hs2
       refine ⟨hlt.toW, ?_⟩
       refine CT_pur (c := (.pointer (some ⟨bk15, (0 + 0), none⟩))) rfl rfl .plain (P_fieldAddrH at_58_0 k8) ?_
       refine CT_do [2003] rfl rfl rfl .plain (D_buildSlice (g := vC) 3072 (xs := ([i7] : List Int)) (vs := [.int .i64 (i7)]) Tryz.underlying23 Tryz.sizeOf3 Tryz.zeroValue3 rfl rfl (.cons rfl .nil) (RVs.cons (RV_int.2 rfl) RVs.nil) rfl rfl fun aD jI kI hs o5579 n8 hxt hfl => ?_)
       have hfr := hfr.stp hs
       have hlt := hlt.stp hs
       have o0 := o0.stp hs
       have u2_0_5071 := u2_0_5071.stp hs rfl
       have u2_1_5071 := u2_1_5071.stp hs rfl
       have u2_2_5071 := u2_2_5071.stp hs rfl
       have u3 := u3.stp hs rfl
       have b5075 := b5075.stp hs rfl
       have oa5075 := oa5075.stp hs rfl
       have bw5339 := bw5339.stp hs rfl
       refine ⟨hlt.toW, ?_⟩
       refine CT_do [2003] rfl rfl rfl .plain (D_appendA (g := aD) plain_int (i := 709075) Tryz.underlying23 info_3 rfl rfl oa5075 rfl n8 dF fun bD lI mI hs b5639 => ?_)
       have hfr := hfr.stp hs
       have hlt := hlt.stp hs
       have o0 := o0.stp hs
       have u2_0_5071 := u2_0_5071.stp hs rfl
       have u2_1_5071 := u2_1_5071.stp hs rfl
       have u2_2_5071 := u2_2_5071.stp hs rfl
       have u3 := u3.stp hs rfl
       have b5075 := b5075.stp hs rfl
       have bw5339 := bw5339.stp hs rfl
       refine ⟨hlt.toW, ?_⟩
       replace hlt := hlt.weak (U := []) rfl
       refine CT_do [] rfl rfl rfl .plain (D_storeW (g := bD) (Cxt.fld (Cxt.root ow_PayTable bk15) fl_PayTable_0 (({ (({ l5 with Rows := [] } : PayTable)) with Across := [] } : PayTable)) ((Sl.hole, (Sl.hole, (Prod.snd (Prod.snd t5)))))) rfl rfl Tryz.sizeOf56 rfl b5075 rfl bw5339 rfl fun gj6001 iA cD hsa hsb b6001 => ?_)
       have hfr := hfr.stp hsa
       have hlt := hlt.stp hsa
       have o0 := o0.stp hsa
       have u2_0_5071 := u2_0_5071.stp hsa rfl
       have u2_1_5071 := u2_1_5071.stp hsa rfl
       have u2_2_5071 := u2_2_5071.stp hsa rfl
       have u3 := u3.stp hsa rfl
       have b5639 := b5639.stp hsa rfl
       have hfr := hfr.stp hsb
       have hlt := hlt.stp hsb
       have o0 := o0.stp hsb
       have u2_0_5071 := u2_0_5071.stp hsb rfl
       have u2_1_5071 := u2_1_5071.stp hsb rfl
       have u2_2_5071 := u2_2_5071.stp hsb rfl
       have u3 := u3.stp hsb rfl
       have b5639 := b5639.stp hsb rfl
       clear hsa hsb
       replace b6001 : OV ow_PayTable 2003 iA cD 58 (({ (({ (({ l5 with Rows := [] } : PayTable)) with Across := [] } : PayTable)) with Rows := m8 } : PayTable) : PayTable) bk15 (sk5339, (Sl.hole, (Prod.snd (Prod.snd t5)))) := b6001
       refine ⟨hlt.toW, ?_⟩
       refine CT_pur (c := (.pointer (some ⟨bk15, (0 + 1), none⟩))) rfl rfl .plain (P_fieldAddrH at_58_1 k8) ?_
       obtain ⟨sk6120, ow6120, ok6120⟩ := OA.toW b5639
       refine CT_do [] rfl rfl rfl .plain (D_storeW (g := iA) (Cxt.fld (Cxt.root ow_PayTable bk15) fl_PayTable_1 (({ (({ (({ l5 with Rows := [] } : PayTable)) with Across := [] } : PayTable)) with Rows := m8 } : PayTable)) ((sk5339, (Sl.hole, (Prod.snd (Prod.snd t5)))))) rfl rfl Tryz.sizeOf23 rfl b6001 rfl ow6120 rfl fun gj6121 rA eD hsa hsb b6121 => ?_)
       have hfr := hfr.stp hsa
       have hlt := hlt.stp hsa
       have o0 := o0.stp hsa
       have u2_0_5071 := u2_0_5071.stp hsa rfl
       have u2_1_5071 := u2_1_5071.stp hsa rfl
       have u2_2_5071 := u2_2_5071.stp hsa rfl
       have u3 := u3.stp hsa rfl
       have hfr := hfr.stp hsb
       have hlt := hlt.stp hsb
       have o0 := o0.stp hsb
       have u2_0_5071 := u2_0_5071.stp hsb rfl
       have u2_1_5071 := u2_1_5071.stp hsb rfl
       have u2_2_5071 := u2_2_5071.stp hsb rfl
       have u3 := u3.stp hsb rfl
       clear hsa hsb
       replace b6121 : OV ow_PayTable 2003 rA eD 58 (({ (({ (({ (({ l5 with Rows := [] } : PayTable)) with Across := [] } : PayTable)) with Rows := m8 } : PayTable)) with Across := n9 } : PayTable) : PayTable) bk15 (sk5339, (sk6120, (Prod.snd (Prod.snd t5)))) := b6121
       refine ⟨hlt.toW, ?_⟩
       refine CT_nil ?_
       clear hlt
       refine EL_p ((.pointer (some ⟨bk15, (0 + 3), none⟩))) (P_fieldAddrH at_58_3 k8) rfl ?_
       refine EL_do .plain rfl (D_storeOV (g := rA) (u' := ((w64 ((({ (({ l5 with Rows := [] } : PayTable)) with Across := [] } : PayTable)).Total + i7)) : Int)) (Cxt.fld (Cxt.root ow_PayTable bk15) fl_PayTable_3 (({ (({ (({ (({ l5 with Rows := [] } : PayTable)) with Across := [] } : PayTable)) with Rows := m8 } : PayTable)) with Across := n9 } : PayTable)) ((sk5339, (sk6120, (Prod.snd (Prod.snd t5)))))) rfl rfl Tryz.sizeOf3 rfl b6121 rfl (RV_int.2 rfl) fun yA gD hs b6241 => ?_)
       have hfr := hfr.stp hs
       have o0 := o0.stp hs
       have u2_0_5071 := u2_0_5071.stp hs rfl
       have u2_1_5071 := u2_1_5071.stp hs rfl
       have u2_2_5071 := u2_2_5071.stp hs rfl
       have u3 := u3.stp hs rfl
       replace b6241 : OV ow_PayTable 2003 yA gD 58 (({ (({ (({ (({ (({ l5 with Rows := [] } : PayTable)) with Across := [] } : PayTable)) with Rows := m8 } : PayTable)) with Across := n9 } : PayTable)) with Total := (w64 ((({ (({ l5 with Rows := [] } : PayTable)) with Across := [] } : PayTable)).Total + i7)) } : PayTable) : PayTable) bk15 (sk5339, (sk6120, (Prod.snd (Prod.snd t5)))) := b6241
       refine EL_nil (blk_n ?_)
       obtain rfl := sinj h
       exact hQ _ _ ⟨yA, hfr, zD, o0, aE, u3, u2_0_5071, u2_1_5071, u2_2_5071, k8, ⟨_, b6241, ⟨bk5339, ⟨ok6120, ⟨(((g8.2).2).1), (((g8.2).2).2)⟩⟩⟩⟩, iE⟩
      ·refine CT_do [2003] rfl rfl rfl .plain (D_buildSlice (g := oE) 3072 (xs := ([i7] : List Int)) (vs := [.int .i64 (i7)]) Tryz.underlying23 Tryz.sizeOf3 Tryz.zeroValue3 rfl rfl (.cons rfl .nil) (RVs.cons (RV_int.2 rfl) RVs.nil) rfl rfl fun aD jI kI hs o5579 n8 hxt hfl => ?_)
       have hfr := hfr.stp hs
       have hlt := hlt.stp hs
       have o0 := o0.stp hs
       have u2_0_5071 := u2_0_5071.stp hs rfl
       have u2_1_5071 := u2_1_5071.stp hs rfl
       have u2_2_5071 := u2_2_5071.stp hs rfl
       have u3 := u3.stp hs rfl
       have b5075 := b5075.stp hs rfl
       have wt5074 := wt5074.stp hs rfl
       have oa5075 := oa5075.stp hs rfl
       have bw5279 := bw5279.stp hs rfl
       refine ⟨hlt.toW, ?_⟩
       refine CT_do [2003] rfl rfl rfl .plain (D_appendW (g := aD) Tryz.underlying56 info_23 rfl rfl wt5074 (g8.1) rfl bw5279 bk5279 (by exact Nat.le_refl 1) rfl cF fun gm5339 vC dI iI sk5339 hs hs2 bw5339 bk5339 => ?_)
       have hfr := hfr.stp hs
       have hlt := hlt.stp hs
       have o0 := o0.stp hs
       have u2_0_5071 := u2_0_5071.stp hs rfl
       have u2_1_5071 := u2_1_5071.stp hs rfl
       have u2_2_5071 := u2_2_5071.stp hs rfl
       have u3 := u3.stp hs rfl
       have b5075 := b5075.stp hs rfl
       have oa5075 := oa5075.stp hs rfl
       have n8 := n8.stp hs
       clear hs
       have hs := hs2
       have hfr := hfr.stp hs
       have hlt := hlt.stp hs
       have o0 := o0.stp hs
       have u2_0_5071 := u2_0_5071.stp hs rfl
       have u2_1_5071 := u2_1_5071.stp hs rfl
       have u2_2_5071 := u2_2_5071.stp hs rfl
       have u3 := u3.stp hs rfl
       have b5075 := b5075.stp hs rfl
       have oa5075 := oa5075.stp hs rfl
       have n8 := n8.stp hs
       clear hs2
       refine ⟨hlt.toW, ?_⟩
       refine CT_pur (c := (.pointer (some ⟨bk15, (0 + 0), none⟩))) rfl rfl .plain (P_fieldAddrH at_58_0 k8) ?_
       refine CT_do [2003] rfl rfl rfl .plain (D_appendA (g := vC) plain_int (i := 709075) Tryz.underlying23 info_3 rfl rfl oa5075 rfl n8 dF fun bD lI mI hs b5639 => ?_)
       have hfr := hfr.stp hs
       have hlt := hlt.stp hs
       have o0 := o0.stp hs
       have u2_0_5071 := u2_0_5071.stp hs rfl
       have u2_1_5071 := u2_1_5071.stp hs rfl
       have u2_2_5071 := u2_2_5071.stp hs rfl
       have u3 := u3.stp hs rfl
       have b5075 := b5075.stp hs rfl
       have bw5339 := bw5339.stp hs rfl
       refine ⟨hlt.toW, ?_⟩
       replace hlt := hlt.weak (U := []) rfl
       refine CT_do [] rfl rfl rfl .plain (D_storeW (g := bD) (Cxt.fld (Cxt.root ow_PayTable bk15) fl_PayTable_0 (({ (({ l5 with Rows := [] } : PayTable)) with Across := [] } : PayTable)) ((Sl.hole, (Sl.hole, (Prod.snd (Prod.snd t5)))))) rfl rfl Tryz.sizeOf56 rfl b5075 rfl bw5339 rfl fun gj6001 iA cD hsa hsb b6001 => ?_)
       have hfr := hfr.stp hsa
       have hlt := hlt.stp hsa
       have o0 := o0.stp hsa
       have u2_0_5071 := u2_0_5071.stp hsa rfl
       have u2_1_5071 := u2_1_5071.stp hsa rfl
       have u2_2_5071 := u2_2_5071.stp hsa rfl
       have u3 := u3.stp hsa rfl
       have b5639 := b5639.stp hsa rfl
       have hfr := hfr.stp hsb
       have hlt := hlt.stp hsb
       have o0 := o0.stp hsb
       have u2_0_5071 := u2_0_5071.stp hsb rfl
       have u2_1_5071 := u2_1_5071.stp hsb rfl
       have u2_2_5071 := u2_2_5071.stp hsb rfl
       have u3 := u3.stp hsb rfl
       have b5639 := b5639.stp hsb rfl
       clear hsa hsb
       replace b6001 : OV ow_PayTable 2003 iA cD 58 (({ (({ (({ l5 with Rows := [] } : PayTable)) with Across := [] } : PayTable)) with Rows := m8 } : PayTable) : PayTable) bk15 (sk5339, (Sl.hole, (Prod.snd (Prod.snd t5)))) := b6001
       refine ⟨hlt.toW, ?_⟩
       refine CT_pur (c := (.pointer (some ⟨bk15, (0 + 1), none⟩))) rfl rfl .plain (P_fieldAddrH at_58_1 k8) ?_
       obtain ⟨sk6120, ow6120, ok6120⟩ := OA.toW b5639
       refine CT_do [] rfl rfl rfl .plain (D_storeW (g := iA) (Cxt.fld (Cxt.root ow_PayTable bk15) fl_PayTable_1 (({ (({ (({ l5 with Rows := [] } : PayTable)) with Across := [] } : PayTable)) with Rows := m8 } : PayTable)) ((sk5339, (Sl.hole, (Prod.snd (Prod.snd t5)))))) rfl rfl Tryz.sizeOf23 rfl b6001 rfl ow6120 rfl fun gj6121 rA eD hsa hsb b6121 => ?_)
       have hfr := hfr.stp hsa
       have hlt := hlt.stp hsa
       have o0 := o0.stp hsa
       have u2_0_5071 := u2_0_5071.stp hsa rfl
       have u2_1_5071 := u2_1_5071.stp hsa rfl
       have u2_2_5071 := u2_2_5071.stp hsa rfl
       have u3 := u3.stp hsa rfl
       have hfr := hfr.stp hsb
       have hlt := hlt.stp hsb
       have o0 := o0.stp hsb
       have u2_0_5071 := u2_0_5071.stp hsb rfl
       have u2_1_5071 := u2_1_5071.stp hsb rfl
       have u2_2_5071 := u2_2_5071.stp hsb rfl
       have u3 := u3.stp hsb rfl
       clear hsa hsb
       replace b6121 : OV ow_PayTable 2003 rA eD 58 (({ (({ (({ (({ l5 with Rows := [] } : PayTable)) with Across := [] } : PayTable)) with Rows := m8 } : PayTable)) with Across := n9 } : PayTable) : PayTable) bk15 (sk5339, (sk6120, (Prod.snd (Prod.snd t5)))) := b6121
       refine ⟨hlt.toW, ?_⟩
       refine CT_nil ?_
       clear hlt
       refine EL_p ((.pointer (some ⟨bk15, (0 + 3), none⟩))) (P_fieldAddrH at_58_3 k8) rfl ?_
       refine EL_do .plain rfl (D_storeOV (g := rA) (u' := ((w64 ((({ (({ l5 with Rows := [] } : PayTable)) with Across := [] } : PayTable)).Total + i7)) : Int)) (Cxt.fld (Cxt.root ow_PayTable bk15) fl_PayTable_3 (({ (({ (({ (({ l5 with Rows := [] } : PayTable)) with Across := [] } : PayTable)) with Rows := m8 } : PayTable)) with Across := n9 } : PayTable)) ((sk5339, (sk6120, (Prod.snd (Prod.snd t5)))))) rfl rfl Tryz.sizeOf3 rfl b6121 rfl (RV_int.2 rfl) fun yA gD hs b6241 => ?_)
       have hfr := hfr.stp hs
       have o0 := o0.stp hs
       have u2_0_5071 := u2_0_5071.stp hs rfl
       have u2_1_5071 := u2_1_5071.stp hs rfl
       have u2_2_5071 := u2_2_5071.stp hs rfl
       have u3 := u3.stp hs rfl
       replace b6241 : OV ow_PayTable 2003 yA gD 58 (({ (({ (({ (({ (({ l5 with Rows := [] } : PayTable)) with Across := [] } : PayTable)) with Rows := m8 } : PayTable)) with Across := n9 } : PayTable)) with Total := (w64 ((({ (({ l5 with Rows := [] } : PayTable)) with Across := [] } : PayTable)).Total + i7)) } : PayTable) : PayTable) bk15 (sk5339, (sk6120, (Prod.snd (Prod.snd t5)))) := b6241
       refine EL_nil (blk_n ?_)
       obtain rfl := sinj h
       exact hQ _ _ ⟨yA, hfr, zD, o0, aE, u3, u2_0_5071, u2_1_5071, u2_2_5071, k8, ⟨_, b6241, ⟨bk5339, ⟨ok6120, ⟨(((g8.2).2).1), (((g8.2).2).2)⟩⟩⟩⟩, iE⟩
     ·refine CT_do [2003] rfl rfl rfl .plain (D_buildSlice (g := gt5075) 3072 (xs := ([i7] : List Int)) (vs := [.int .i64 (i7)]) Tryz.underlying23 Tryz.sizeOf3 Tryz.zeroValue3 rfl rfl (.cons rfl .nil) (RVs.cons (RV_int.2 rfl) RVs.nil) rfl rfl fun aD jI kI hs o5579 n8 hxt hfl => ?_)
      have hfr := hfr.stp hs
      have hlt := hlt.stp hs
      have o0 := o0.stp hs
      have u2_0_5071 := u2_0_5071.stp hs rfl
      have u2_1_5071 := u2_1_5071.stp hs rfl
      have u2_2_5071 := u2_2_5071.stp hs rfl
      have u3 := u3.stp hs rfl
      have b5075 := b5075.stp hs rfl
      have x8 := x8.stp hs rfl
      have wt5074 := wt5074.stp hs rfl
      have oa5075 := oa5075.stp hs rfl
      refine ⟨hlt.toW, ?_⟩
      obtain ⟨sk5279, ow5279, ok5279⟩ := OA.toW x8
      refine CT_do [2003] rfl rfl rfl .plain (D_buildSliceW (g := aD) (E := (Ow.list 3 (Ow.sh Int))) Tryz.underlying56 Tryz.sizeOf23 Tryz.zeroValue23 rfl rfl rfl rfl ow5279 ok5279 fun oE iM b5279 hs bw5279 bk5279 => ?_)
      have hfr := hfr.stp hs
      have hlt := hlt.stp hs
      have o0 := o0.stp hs
      have u2_0_5071 := u2_0_5071.stp hs rfl
      have u2_1_5071 := u2_1_5071.stp hs rfl
      have u2_2_5071 := u2_2_5071.stp hs rfl
      have u3 := u3.stp hs rfl
      have b5075 := b5075.stp hs rfl
      have wt5074 := wt5074.stp hs rfl
      have oa5075 := oa5075.stp hs rfl
      have n8 := n8.stp hs
      refine ⟨hlt.toW, ?_⟩
      refine CT_do [2003] rfl rfl rfl .plain (D_appendW (g := oE) Tryz.underlying56 info_23 rfl rfl wt5074 (g8.1) rfl bw5279 bk5279 (by exact Nat.le_refl 1) rfl cF fun gm5339 vC dI iI sk5339 hs hs2 bw5339 bk5339 => ?_)
      have hfr := hfr.stp hs
      have hlt := hlt.stp hs
      have o0 := o0.stp hs
      have u2_0_5071 := u2_0_5071.stp hs rfl
      have u2_1_5071 := u2_1_5071.stp hs rfl
      have u2_2_5071 := u2_2_5071.stp hs rfl
      have u3 := u3.stp hs rfl
      have b5075 := b5075.stp hs rfl
      have oa5075 := oa5075.stp hs rfl
      have n8 := n8.stp hs
      clear hs
      have hs := hs2
      have hfr := hfr.stp hs
      have hlt := hlt.stp hs
      have o0 := o0.stp hs
      have u2_0_5071 := u2_0_5071.stp hs rfl
      have u2_1_5071 := u2_1_5071.stp hs rfl
      have u2_2_5071 := u2_2_5071.stp hs rfl
      have u3 := u3.stp hs rfl
      have b5075 := b5075.stp hs rfl
      have oa5075 := oa5075.stp hs rfl
      have n8 := n8.stp hs
      clear hs2
      refine ⟨hlt.toW, ?_⟩
      refine CT_pur (c := (.pointer (some ⟨bk15, (0 + 0), none⟩))) rfl rfl .plain (P_fieldAddrH at_58_0 k8) ?_
      refine CT_do [2003] rfl rfl rfl .plain (D_appendA (g := vC) plain_int (i := 709075) Tryz.underlying23 info_3 rfl rfl oa5075 rfl n8 dF fun bD lI mI hs b5639 => ?_)
      have hfr := hfr.stp hs
      have hlt := hlt.stp hs
      have o0 := o0.stp hs
      have u2_0_5071 := u2_0_5071.stp hs rfl
      have u2_1_5071 := u2_1_5071.stp hs rfl
      have u2_2_5071 := u2_2_5071.stp hs rfl
      have u3 := u3.stp hs rfl
      have b5075 := b5075.stp hs rfl
      have bw5339 := bw5339.stp hs rfl
      refine ⟨hlt.toW, ?_⟩
      replace hlt := hlt.weak (U := []) rfl
      refine CT_do [] rfl rfl rfl .plain (D_storeW (g := bD) (Cxt.fld (Cxt.root ow_PayTable bk15) fl_PayTable_0 (({ (({ l5 with Rows := [] } : PayTable)) with Across := [] } : PayTable)) ((Sl.hole, (Sl.hole, (Prod.snd (Prod.snd t5)))))) rfl rfl Tryz.sizeOf56 rfl b5075 rfl bw5339 rfl fun gj6001 iA cD hsa hsb b6001 => ?_)
      have hfr := hfr.stp hsa
      have hlt := hlt.stp hsa
      have o0 := o0.stp hsa
      have u2_0_5071 := u2_0_5071.stp hsa rfl
      have u2_1_5071 := u2_1_5071.stp hsa rfl
      have u2_2_5071 := u2_2_5071.stp hsa rfl
      have u3 := u3.stp hsa rfl
      have b5639 := b5639.stp hsa rfl
      have hfr := hfr.stp hsb
      have hlt := hlt.stp hsb
      have o0 := o0.stp hsb
      have u2_0_5071 := u2_0_5071.stp hsb rfl
      have u2_1_5071 := u2_1_5071.stp hsb rfl
      have u2_2_5071 := u2_2_5071.stp hsb rfl
      have u3 := u3.stp hsb rfl
      have b5639 := b5639.stp hsb rfl
      clear hsa hsb
      replace b6001 : OV ow_PayTable 2003 iA cD 58 (({ (({ (({ l5 with Rows := [] } : PayTable)) with Across := [] } : PayTable)) with Rows := m8 } : PayTable) : PayTable) bk15 (sk5339, (Sl.hole, (Prod.snd (Prod.snd t5)))) := b6001
      refine ⟨hlt.toW, ?_⟩
      refine CT_pur (c := (.pointer (some ⟨bk15, (0 + 1), none⟩))) rfl rfl .plain (P_fieldAddrH at_58_1 k8) ?_
      obtain ⟨sk6120, ow6120, ok6120⟩ := OA.toW b5639
      refine CT_do [] rfl rfl rfl .plain (D_storeW (g := iA) (Cxt.fld (Cxt.root ow_PayTable bk15) fl_PayTable_1 (({ (({ (({ l5 with Rows := [] } : PayTable)) with Across := [] } : PayTable)) with Rows := m8 } : PayTable)) ((sk5339, (Sl.hole, (Prod.snd (Prod.snd t5)))))) rfl rfl Tryz.sizeOf23 rfl b6001 rfl ow6120 rfl fun gj6121 rA eD hsa hsb b6121 => ?_)
      have hfr := hfr.stp hsa
      have hlt := hlt.stp hsa
      have o0 := o0.stp hsa
      have u2_0_5071 := u2_0_5071.stp hsa rfl
      have u2_1_5071 := u2_1_5071.stp hsa rfl
      have u2_2_5071 := u2_2_5071.stp hsa rfl
      have u3 := u3.stp hsa rfl
      have hfr := hfr.stp hsb
      have hlt := hlt.stp hsb
      have o0 := o0.stp hsb
      have u2_0_5071 := u2_0_5071.stp hsb rfl
      have u2_1_5071 := u2_1_5071.stp hsb rfl
      have u2_2_5071 := u2_2_5071.stp hsb rfl
      have u3 := u3.stp hsb rfl
      clear hsa hsb
      replace b6121 : OV ow_PayTable 2003 rA eD 58 (({ (({ (({ (({ l5 with Rows := [] } : PayTable)) with Across := [] } : PayTable)) with Rows := m8 } : PayTable)) with Across := n9 } : PayTable) : PayTable) bk15 (sk5339, (sk6120, (Prod.snd (Prod.snd t5)))) := b6121
      refine ⟨hlt.toW, ?_⟩
      refine CT_nil ?_
      clear hlt
      refine EL_p ((.pointer (some ⟨bk15, (0 + 3), none⟩))) (P_fieldAddrH at_58_3 k8) rfl ?_
      refine EL_do .plain rfl (D_storeOV (g := rA) (u' := ((w64 ((({ (({ l5 with Rows := [] } : PayTable)) with Across := [] } : PayTable)).Total + i7)) : Int)) (Cxt.fld (Cxt.root ow_PayTable bk15) fl_PayTable_3 (({ (({ (({ (({ l5 with Rows := [] } : PayTable)) with Across := [] } : PayTable)) with Rows := m8 } : PayTable)) with Across := n9 } : PayTable)) ((sk5339, (sk6120, (Prod.snd (Prod.snd t5)))))) rfl rfl Tryz.sizeOf3 rfl b6121 rfl (RV_int.2 rfl) fun yA gD hs b6241 => ?_)
      have hfr := hfr.stp hs
      have o0 := o0.stp hs
      have u2_0_5071 := u2_0_5071.stp hs rfl
      have u2_1_5071 := u2_1_5071.stp hs rfl
      have u2_2_5071 := u2_2_5071.stp hs rfl
      have u3 := u3.stp hs rfl
      replace b6241 : OV ow_PayTable 2003 yA gD 58 (({ (({ (({ (({ (({ l5 with Rows := [] } : PayTable)) with Across := [] } : PayTable)) with Rows := m8 } : PayTable)) with Across := n9 } : PayTable)) with Total := (w64 ((({ (({ l5 with Rows := [] } : PayTable)) with Across := [] } : PayTable)).Total + i7)) } : PayTable) : PayTable) bk15 (sk5339, (sk6120, (Prod.snd (Prod.snd t5)))) := b6241
      refine EL_nil (blk_n ?_)
      obtain rfl := sinj h
      exact hQ _ _ ⟨yA, hfr, zD, o0, aE, u3, u2_0_5071, u2_1_5071, u2_2_5071, k8, ⟨_, b6241, ⟨bk5339, ⟨ok6120, ⟨(((g8.2).2).1), (((g8.2).2).2)⟩⟩⟩⟩, iE⟩
   ·clear hx
    obtain ⟨jM, hfr, xJ, yJ, zJ, aK, u2_0_6242, u2_1_6242, u2_2_6242, bK, ⟨sM, cK, mH⟩, dK⟩ := hR
    refine E_region (EL_mv dK rfl ?_)
    refine EL_in (.int .i64 ((w64 (m7 + (1 : Int))))) rfl rfl rfl rfl ?_
    refine EL_at (.int .i64 ((w64 (m7 + (1 : Int))))) rfl rfl ?_
    exact EL_nil (thn_n (pK (vB, (w64 (m7 + (1 : Int)))) _ _ ⟨jM, hfr, xJ, yJ, zJ, aK, u2_0_6242, u2_1_6242, u2_2_6242, bK, ⟨_, cK, mH⟩, rfl⟩ h))
 ·clear hx
  obtain ⟨kO, hfr, yG, lE, u2_0_6243, u2_1_6243, u2_2_6243, lK, ⟨tM, mK, nH⟩⟩ := hR
  refine E_seq (E_region ?_)
  obtain ⟨go6245, hs, b6245⟩ := OV.toOB mK nH
  have hfr := hfr.stp hs
  have lE := lE.stp hs rfl
  refine EL_do .plain rfl (D_loadO (g := go6245) Tryz.isAgg58 Tryz.sizeOf58 lK b6245 fun kM mM => ?_)
  refine EL_do .plain rfl (D_storeOc (g := go6245) (v := kM) Tryz.sizeOf58 yG lE rfl mM fun lO mO hs b6247 cb => ?_)
  clear cb
  have hfr := hfr.stp hs
  refine EL_nil (thn_n (E_ret ?_))
  obtain rfl := sinj h
  obtain ⟨ad6248, cv6248, hp6248, gL, cr6248⟩ := ob_read Tryz.isAgg58 Tryz.sizeOf58 b6247
  exact endm_c rfl rfl ((show _ = p2 from yG).trans hp6248) gL ⟨_, hfr, cr6248⟩
def f43 (x0 : Int) (x1 : Int) (x2 : Int) : Option (Int) :=
 jn (σ := Unit) (fun _ =>
  jn (σ := Unit) (fun _ =>
   some ((w64 (x0 + (1 : Int))))
   ) fun g8 =>
  bif (decide (x0 > (0 : Int))) then
   some ((w64 (x0 - (1 : Int))))
  else
   g8 ()
  ) fun k7 =>
 Option.bind (α := Bool) (
  bif ((w64 ((w64 (x0 + x1)) - (30000 : Int))) != x0) then
   bif (decide ((w64 ((w64 (x0 + x1)) - (30000 : Int))) ≥ (0 : Int))) then
    some ((decide ((w64 ((w64 (x0 + x1)) - (30000 : Int))) ≤ x2)))
   else
    some (false)
  else
   some (false)
  ) fun u3 =>
 bif u3 then
  some ((w64 ((w64 (x0 + x1)) - (30000 : Int))))
 else
  k7 ()
theorem en43 : Enters Tryz.prog 43 := enters_of Tryz.func43 (by kernel_rfl) rfl
theorem wk43 {gI : Gh} {wI : World} {x0 : Int} {x1 : Int} {x2 : Int}  {r : Int} (h : f43 x0 x1 x2 = some r) : Fn Tryz.prog 43 #[.int .i64 (x0), .int .i64 (x1), .int .i64 (x2)] gI wI (fun _ _ v => v = .int .i64 (r)) := by
 unfold f43 at h
 refine fn_of_E Tryz.func43 rfl (Nat.le_of_ble_eq_true rfl) fun g0 hm hfr => ?_
 show E _ 31 none _ _ _ _ _
 refine E_seq (E_region (EL_at (.int .i64 (0)) rfl rfl ?_))
 refine EL_nil (thn_n (E_joinC h (fun (s : Unit) e w => ∃ (g : Gh) , Fr gI wI g w ∧ e 0 = .int .i64 (x0)) (fun X7 k7 hk7 h => ?_) ?_))
 ·refine E_seq (E_region (EL_mw (.int .i64 (x0)) rfl rfl ?_))
  refine EL_mw (.int .i64 (x1)) rfl rfl ?_
  refine EL_in (.int .i64 ((w64 (x0 + x1)))) rfl rfl rfl rfl ?_
  refine EL_in (.int .i64 ((w64 ((w64 (x0 + x1)) - (30000 : Int))))) rfl rfl rfl rfl ?_
  refine EL_at (.int .i64 ((w64 ((w64 (x0 + x1)) - (30000 : Int))))) rfl rfl ?_
  refine EL_nil (thn_n ?_)
  obtain ⟨u3, hx, h⟩ := bsome h
  refine E_join (fun e w => ∃ (g : Gh) , Fr gI wI g w ∧ e 0 = .int .i64 (x0) ∧ e 7 = .int .i64 ((w64 ((w64 (x0 + x1)) - (30000 : Int)))) ∧ e 23 = .bool (u3)) (fun Q' hQ => ?_) (fun n8 x8 hR => ?_)
  ·replace h := hx
   clear hx
   refine E_region (EL_mw (.int .i64 ((w64 ((w64 (x0 + x1)) - (30000 : Int))))) rfl rfl ?_)
   refine EL_mw (.int .i64 (x0)) rfl rfl ?_
   refine EL_p (.bool (((w64 ((w64 (x0 + x1)) - (30000 : Int))) != x0))) (P_int rfl rfl rfl) rfl ?_
   refine EL_p (.bool (((w64 ((w64 (x0 + x1)) - (30000 : Int))) != x0))) (P_move rfl) rfl ?_
   rcases csome h with ⟨l5, h⟩ | ⟨l5, h⟩
   ·refine EL_y (.int .i64 ((w64 ((w64 (x0 + x1)) - (30000 : Int))))) (P_move rfl) rfl rfl l5 rfl ?_
    refine EL_y (.bool ((decide ((w64 ((w64 (x0 + x1)) - (30000 : Int))) ≥ (0 : Int))))) (P_int rfl rfl rfl) rfl rfl l5 rfl ?_
    refine EL_p (.bool ((decide ((w64 ((w64 (x0 + x1)) - (30000 : Int))) ≥ (0 : Int))))) (P_pick (b := ((w64 ((w64 (x0 + x1)) - (30000 : Int))) != x0)) rfl (pick_t l5 rfl)) rfl ?_
    refine EL_p (.bool ((decide ((w64 ((w64 (x0 + x1)) - (30000 : Int))) ≥ (0 : Int))))) (P_move rfl) rfl ?_
    rcases csome h with ⟨o0, h⟩ | ⟨o0, h⟩
    ·refine EL_y (.int .i64 ((w64 ((w64 (x0 + x1)) - (30000 : Int))))) (P_move rfl) rfl rfl o0 rfl ?_
     refine EL_y (.int .i64 (x2)) (P_move rfl) rfl rfl o0 rfl ?_
     refine EL_y (.bool ((decide ((w64 ((w64 (x0 + x1)) - (30000 : Int))) ≤ x2)))) (P_int rfl rfl rfl) rfl rfl o0 rfl ?_
     refine EL_p (.bool ((decide ((w64 ((w64 (x0 + x1)) - (30000 : Int))) ≤ x2)))) (P_pick (b := (decide ((w64 ((w64 (x0 + x1)) - (30000 : Int))) ≥ (0 : Int)))) rfl (pick_t o0 rfl)) rfl ?_
     refine EL_nil ?_
     obtain rfl := sinj h
     exact hQ _ _ ⟨g0, hfr, rfl, rfl, rfl⟩
    ·refine EL_s rfl rfl o0 rfl rfl ?_
     refine EL_s rfl rfl o0 rfl rfl ?_
     refine EL_s rfl rfl o0 rfl rfl ?_
     refine EL_p (.bool false) (P_pick (b := (decide ((w64 ((w64 (x0 + x1)) - (30000 : Int))) ≥ (0 : Int)))) rfl (pick_f o0 rfl)) rfl ?_
     refine EL_nil ?_
     obtain rfl := sinj h
     exact hQ _ _ ⟨g0, hfr, rfl, rfl, rfl⟩
   ·refine EL_s rfl rfl l5 rfl rfl ?_
    refine EL_s rfl rfl l5 rfl rfl ?_
    refine EL_p (.bool false) (P_pick (b := ((w64 ((w64 (x0 + x1)) - (30000 : Int))) != x0)) rfl (pick_f l5 rfl)) rfl ?_
    refine EL_dead 5 rfl ?_
    refine EL_nil ?_
    obtain rfl := sinj h
    exact hQ _ _ ⟨g0, hfr, rfl, rfl, rfl⟩
  ·clear hx
   obtain ⟨l8, hfr, y6, i7, x5⟩ := hR
   rcases csome h with ⟨i6, h⟩ | ⟨i6, h⟩
   ·refine E_cond_true (Eq.trans (show ev _ _ = .bool (u3) from x5) (congrArg Value.bool i6)) ?_
    refine E_seq (E_region (EL_mv i7 rfl ?_))
    refine EL_at (.int .i64 ((w64 ((w64 (x0 + x1)) - (30000 : Int))))) rfl rfl ?_
    refine EL_nil (thn_n (E_ret (thn_r ?_)))
    obtain rfl := sinj h
    exact end1 rfl rfl (show _ = .int .i64 ((w64 ((w64 (x0 + x1)) - (30000 : Int)))) from rfl) ⟨_, hfr, rfl⟩
   ·refine E_cond_false (Eq.trans (show ev _ _ = .bool (u3) from x5) (congrArg Value.bool i6)) ?_
    exact E_skip (thn_n (hk7 () _ _ ⟨l8, hfr, y6⟩ h))
 ·rintro _ r8 a9 ⟨m8, hfr, t5⟩ h
  refine E_joinC h (fun (s : Unit) e w => ∃ (g : Gh) , Fr gI wI g w ∧ e 0 = .int .i64 (x0)) (fun X16 g8 k8 h => ?_) ?_
  ·refine E_seq (E_region (EL_mv t5 rfl ?_))
   refine EL_in (.bool ((decide (x0 > (0 : Int))))) rfl rfl rfl rfl ?_
   refine EL_nil (thn_n ?_)
   rcases csome h with ⟨x6, h⟩ | ⟨x6, h⟩
   ·refine E_ct x6 rfl ?_
    refine E_seq (E_region (EL_mv t5 rfl ?_))
    refine EL_in (.int .i64 ((w64 (x0 - (1 : Int))))) rfl rfl rfl rfl ?_
    refine EL_at (.int .i64 ((w64 (x0 - (1 : Int))))) rfl rfl ?_
    refine EL_nil (thn_n (E_ret (thn_r ?_)))
    obtain rfl := sinj h
    exact end1 rfl rfl (show _ = .int .i64 ((w64 (x0 - (1 : Int)))) from rfl) ⟨_, hfr, rfl⟩
   ·refine E_cf x6 rfl ?_
    exact E_skip (thn_n (k8 () _ _ ⟨m8, hfr, t5⟩ h))
  ·rintro _ v8 d9 ⟨k9, hfr, m7⟩ h
   refine E_seq (E_region (EL_mv m7 rfl ?_))
   refine EL_in (.int .i64 ((w64 (x0 + (1 : Int))))) rfl rfl rfl rfl ?_
   refine EL_at (.int .i64 ((w64 (x0 + (1 : Int))))) rfl rfl ?_
   refine EL_nil (thn_n (E_ret ?_))
   obtain rfl := sinj h
   exact end1 rfl rfl (show _ = .int .i64 ((w64 (x0 + (1 : Int)))) from rfl) ⟨_, hfr, rfl⟩
end Go.Proofs.YtkmbkaoolacofaaGreat
