import Derived.Test.YtkmbkaoolacofaaGreatTypes
import Derived.Test.YtkmbkaoolacofaaGreatKn
import Derived.Test.YtkmbkaoolacofaaGreatShelf
import Derived.Test.YtkmbkaoolacofaaGreatShc
set_option maxRecDepth 8000
set_option maxHeartbeats 4000000
namespace Go.Proofs.YtkmbkaoolacofaaGreat
open Go.RowKit
theorem info_3 : (Tryz.prog.info? 3).map (fun i => (i.zero, i.size, i.bytes)) = some (some (.int .i64 0), 1, 8) := by kernel_rfl
theorem info_87 : (Tryz.prog.info? 87).map (fun i => (i.zero, i.size, i.bytes)) = some (some (.agg #[.int .i64 0, .int .i64 0]), 2, 16) := by kernel_rfl
theorem mixed : Tryz.prog.follows .mixedOrders = true := by kernel_rfl
theorem endm_c {P : Program} {e : Env} {ds : List Deferred} {w : World} {fn : Func} {R : Value → World → Prop} {t0 : Tmp} {v0 : Value} {y0 : TypeId} {a0 : Addr} (hres : fn.results = #[.cell t0 y0]) (hd : ds = []) (h0 : e t0 = .pointer (some a0)) (l0 : (loadVar y0 a0).run P w = .ok v0 w) (h : R v0 w) : atEnd P fn R .ret e ds w :=
 ⟨hd, fun tmps ht => ⟨_, by simp [results, hres, ht, asAddr, h0, l0], h⟩⟩
theorem info_27 : (Tryz.prog.info? 27).map (fun i => (i.zero, i.size, i.bytes)) = some (some (.agg #[.int .i64 0, .int .i64 0, .int .i64 0, .slice none 0 0, .int .i64 0]), 5, 56) := by kernel_rfl
theorem lay_117 : layoutOf Tryz.prog 117 = some ([.slice none 0 0, .slice none 0 0, .int .i64 0, .int .i64 0], [(0, 4)]) := by kernel_rfl
theorem plain_PayRate : Plain PayRate := fun _ m' _ w' x _ h => (plain_two plain_int plain_int) _ m' _ w' _ _ h
theorem szA_3 : (Tryz.prog.info? 3).map (·.size) = some 1 := by kernel_rfl
theorem lay_25 : layoutOf Tryz.prog 25 = some ([.slice none 0 0, .slice none 0 0, .int .i64 0, .int .i64 0], [(0, 1), (1, 1), (2, 1), (3, 1)]) := by kernel_rfl
theorem lay_87 : layoutOf Tryz.prog 87 = some ([.int .i64 0, .int .i64 0], [(0, 1), (1, 1)]) := by kernel_rfl
theorem lay_27 : layoutOf Tryz.prog 27 = some ([.int .i64 0, .int .i64 0, .int .i64 0, .slice none 0 0, .int .i64 0], [(0, 1), (1, 1), (2, 1), (3, 1), (4, 1)]) := by kernel_rfl
theorem capf_0_2 {e : Env} {f : FuncId} {o0 : Operand} {u3 : Operand} {b0 : Value} {b1 : Value} (hb0 : ev e o0 = b0) (hb1 : ev e u3 = b1) : (Value.func (.func f) ((#[] : Array Operand).map (ev e)) ((#[o0, u3] : Array Operand).map (ev e))) = .func (.func f) #[] #[b0, b1] := by simp [hb0, hb1]
theorem key_3 : KeyLaw Tryz.prog 3 (Value.int .i64) := keyLaw_int Tryz.underlying3
theorem layA_80 : ((Tryz.prog.info? 80).bind (·.zero)).map (·.cells.toList) = some [.int .i64 0, .int .i64 0, .int .i64 0, .int .i64 0, .int .i64 0, .int .i64 0, .int .i64 0, .int .i64 0, .int .i64 0, .int .i64 0, .int .i64 0, .int .i64 0, .int .i64 0, .int .i64 0, .int .i64 0, .int .i64 0, .int .i64 0, .int .i64 0, .int .i64 0, .int .i64 0, .int .i64 0, .int .i64 0, .int .i64 0, .int .i64 0, .int .i64 0, .int .i64 0, .int .i64 0, .int .i64 0, .int .i64 0, .int .i64 0, .int .i64 0, .int .i64 0, .int .i64 0, .int .i64 0, .int .i64 0, .int .i64 0, .int .i64 0, .int .i64 0, .int .i64 0, .int .i64 0, .int .i64 0, .int .i64 0, .int .i64 0, .int .i64 0, .int .i64 0, .int .i64 0, .int .i64 0, .int .i64 0, .int .i64 0, .int .i64 0, .int .i64 0] := by kernel_rfl
theorem endm_ct {P : Program} {e : Env} {ds : List Deferred} {w : World} {fn : Func} {R : Value → World → Prop} {t0 : Tmp} {v0 : Value} {y0 : TypeId} {a0 : Addr} {t1 : Tmp} {v1 : Value} (hres : fn.results = #[.cell t0 y0, .tmp t1]) (hd : ds = []) (h0 : e t0 = .pointer (some a0)) (l0 : (loadVar y0 a0).run P w = .ok v0 w) (h1 : e t1 = v1) (h : R (.tuple #[v0, v1]) w) : atEnd P fn R .ret e ds w :=
 ⟨hd, fun tmps ht => ⟨_, by simp [results, hres, ht, asAddr, h0, l0, h1], h⟩⟩
@[reducible] def ow_PayPiece : Ow PayPiece := Ow.struct (fun (x : PayPiece) => (x.Weaver, x.Dense, x.Picks, x.Extras, x.Faults)) (Ow.pair (Ow.sh Int) (Ow.pair (Ow.sh Int) (Ow.pair (Ow.sh Int) (Ow.pair (Ow.list 3 (Ow.sh Int)) (Ow.sh Int)))))
theorem fw_ow_PayPiece : (ow_PayPiece).free := free_struct (free_pair (free_sh plain_int) (free_pair (free_sh plain_int) (free_pair (free_sh plain_int) (free_pair (free_list 3 (free_sh plain_int)) (free_sh plain_int)))))
theorem fl_PayPiece_3 : Fl ow_PayPiece (Ow.list 3 (Ow.sh Int)) 3 (fun (x : PayPiece) y => { x with Extras := y }) (fun (q : (ow_PayPiece).S) (r : ((Ow.list 3 (Ow.sh Int))).S) => ((Prod.fst q), ((Prod.fst (Prod.snd q)), ((Prod.fst (Prod.snd (Prod.snd q))), (r, (Prod.snd (Prod.snd (Prod.snd (Prod.snd q))))))))) := Fl.of _ (Fl.comp Prod.snd Prod.snd (Fl.snd _ _) (Fl.comp Prod.snd Prod.snd (Fl.snd _ _) (Fl.comp Prod.snd Prod.snd (Fl.snd _ _) (Fl.fst _ _) rfl) rfl) rfl) (fun _ _ => rfl)
theorem lay_83 : layoutOf Tryz.prog 83 = some ([.int .u8 0, .int .u8 0, .int .u8 0, .int .u16 0, .int .u32 0], [(0, 1), (1, 1), (2, 1), (3, 1), (4, 1)]) := by kernel_rfl
@[reducible] def ow_PayList : Ow PayList := Ow.struct (fun (x : PayList) => (x.Rates, x.Extras, x.Fine, x.Cap)) (Ow.pair (Ow.list 87 (Ow.sh PayRate)) (Ow.pair (Ow.list 3 (Ow.sh Int)) (Ow.pair (Ow.sh Int) (Ow.sh Int))))
theorem fl_PayList_0 : Fl ow_PayList (Ow.list 87 (Ow.sh PayRate)) 0 (fun (x : PayList) y => { x with Rates := y }) (fun (q : (ow_PayList).S) (r : ((Ow.list 87 (Ow.sh PayRate))).S) => (r, (Prod.snd q))) := Fl.of _ (Fl.fst _ _) (fun _ _ => rfl)
theorem fl_PayList_1 : Fl ow_PayList (Ow.list 3 (Ow.sh Int)) 1 (fun (x : PayList) y => { x with Extras := y }) (fun (q : (ow_PayList).S) (r : ((Ow.list 3 (Ow.sh Int))).S) => ((Prod.fst q), (r, (Prod.snd (Prod.snd q))))) := Fl.of _ (Fl.comp Prod.snd Prod.snd (Fl.snd _ _) (Fl.fst _ _) rfl) (fun _ _ => rfl)
theorem fl_PayRate_1 : Fl (Ow.sh PayRate) (Ow.sh Int) 1 (fun (x : PayRate) y => { x with Rate := y }) (fun q _ => q) := Fl.shd part_PayRate_1 (fun _ _ => rfl) (fun _ _ _ => rfl)
def f111 (x0 : List Int) : Option (List Int) := apnd 8 [] x0
theorem en111 : Enters Tryz.prog 111 := enters_of Tryz.func111 (by kernel_rfl) rfl
def f12 : Option Bool := some true
theorem en12 : Enters Tryz.prog 12 := enters_of Tryz.func12 (by kernel_rfl) rfl
theorem wk12 {gI : Gh} {wI : World} {r : Bool} (h : f12 = some r) : Fn Tryz.prog 12 #[] gI wI (fun _ _ v => v = .bool (r)) := by
 injection h with h
 subst h
 exact wkK12
theorem en59 : Enters Tryz.prog 59 := enters_of Tryz.func59 (by kernel_rfl) rfl
theorem en60 : Enters Tryz.prog 60 := enters_of Tryz.func60 (by kernel_rfl) rfl
def f117 (x0 : List Int) : Option Int := compactN x0
theorem en117 : Enters Tryz.prog 117 := enters_of Tryz.func117 (by kernel_rfl) rfl
theorem wk117 {iI : Nat} {gI : Gh} {wI : World} {x0 : List Int} {up0 : Value} (mp0 : OM iI gI wI 3 x0 up0) {r : Int} (h : f117 x0 = some r) : FnM Tryz.prog 117 #[up0] iI gI wI (fun _ _ u => ∃ a c, u = .slice a r.toNat c) :=
 compact_fnM ⟨fun blk off cap zs w h1 h2 h3 => Tryz.slices_Compact_int blk off cap zs w h1 h2 h3, fun a cap w => Tryz.slices_Compact_int_empty a cap w⟩ mp0 h
def f13 (x0 : PayList) : Option (PayList) :=
 (apnd 16 (([] : List PayRate)) ((x0).Rates)).bind fun y7 =>
 (apnd 8 (([] : List Int)) ((x0).Extras)).bind fun o0 =>
 some ({ { x0 with Rates := y7 } with Extras := o0 })
theorem en13 : Enters Tryz.prog 13 := enters_of Tryz.func13 (by kernel_rfl) rfl
theorem wk13 {gI : Gh} {wI : World} {x0 : PayList} {up0 : Value} (rp0 : RV gI.m wI x0 up0) {r : PayList} (h : f13 x0 = some r) : Fn Tryz.prog 13 #[up0] gI wI (fun m w v => RV m w (r) v) := by
 unfold f13 at h
 refine fn_of_E Tryz.func13 rfl (Nat.le_of_ble_eq_true rfl) fun g0 hm hfr => ?_
 have rp0 : RV g0.m wI x0 up0 := hm ▸ rp0
 show E _ 14 none _ _ _ _ _
 refine E_seq (E_region (EL_do .plain rfl (D_boxO (g := g0) 2001 rfl rp0 fun g1 w1 p1 hs b1 => ?_)))
 have hfr := hfr.stp hs
 refine EL_do .plain rfl (D_allocOc (g := g1) 2002 (⟨[], [], 0, 0⟩ : PayList) Tryz.zeroValue25 (fun m w => ⟨_, (rep_two rep_nil (rep_two rep_nil (rep_two rep_int rep_int))), rfl⟩) fun g2 w2 p2 hs b2 cb => ?_)
 have hfr := hfr.stp hs
 have b1 := b1.stp hs rfl
 have l9 : OSF 2002 60200 0 g2 w2 87 25 ([] : List PayRate) p2 := cb.osf (by rfl)
 have n9 : OSF 2002 60201 1 g2 w2 3 25 ([] : List Int) p2 := cb.osf (by rfl)
 clear cb
 refine EL_nil (thn_n (E_seq (L_loadO (x := .tmp 4) part_PayList_0.1 Tryz.isAgg22 Tryz.sizeOf22 b1 fun v5 r5 g8 => ?_)))
 obtain ⟨y7, k8, h⟩ := bsome h
 refine L_loadO (x := .tmp 8) part_PayList_1.1 Tryz.isAgg23 Tryz.sizeOf23 b1 fun l8 m8 x6 => ?_
 obtain ⟨o0, i7, h⟩ := bsome h
 refine E_drawL (g := g2) (n := 9) [(0, (fun v g w => RV g.m w ([] : List PayRate) v ∧ OS 3003 g w 87 ([] : List PayRate) v ∧ FullV v)), (3, (fun v g w => RV g.m w y7 v ∧ OS 3003 g w 87 y7 v)), (4, (fun v g w => RV g.m w ([] : List Int) v ∧ OS 3007 g w 3 ([] : List Int) v ∧ FullV v)), (7, (fun v g w => RV g.m w o0 v ∧ OS 3007 g w 3 o0 v))] [0, 1, 2, 3, 4, 5, 6, 7, 8] rfl mixed (by kernel_rfl) (⟨fun _ => up_and up_rv (up_and up_os (up_eq _)), fun _ => up_and up_rv up_os, fun _ => up_and up_rv (up_and up_os (up_eq _)), fun _ => up_and up_rv up_os, trivial⟩) ?_
 refine L_do (φ := fun v g w => RV g.m w ([] : List PayRate) v ∧ OS 3003 g w 87 ([] : List PayRate) v ∧ FullV v) rfl rfl .plain (fun g w hd => D_buildSlice (g := g) 3003 (xs := ([] : List PayRate)) (vs := []) Tryz.underlying22 Tryz.sizeOf87 Tryz.zeroValue87 rfl rfl .nil RVs.nil rfl rfl fun g' w' v hs o r hxt hfl => ⟨g', hxt, r, o, hfl⟩) (fun v3 hv => ?_)
 clear hv
 refine L_p (fPtr p1 0) rfl rfl (P_fieldAddr at_25_0 rfl (OB.ptr b1)) ?_
 refine L_ld (c := v5) rfl rfl .plain (fun _ _ h => ⟨h.ch, fun b hb _ => h.below.block b hb⟩) g8 rfl ?_
 refine L_do (φ := fun v g w => RV g.m w y7 v ∧ OS 3003 g w 87 y7 v) rfl rfl .plain (fun g w hd => D_append (g := g) (i := 3003) Tryz.underlying22 info_87 rfl rfl (word (A := fun g w => RV g.m w ([] : List PayRate) v3 ∧ OS 3003 g w 87 ([] : List PayRate) v3 ∧ FullV v3) 0 rfl rfl (deps_of hd)).2.1 (word (A := fun g w => RV g.m w ([] : List PayRate) v3 ∧ OS 3003 g w 87 ([] : List PayRate) v3 ∧ FullV v3) 0 rfl rfl (deps_of hd)).1 rfl (r5.ext hd.1) k8 fun g' w' v hs o r hf => ⟨g', hf (word (A := fun g w => RV g.m w ([] : List PayRate) v3 ∧ OS 3003 g w 87 ([] : List PayRate) v3 ∧ FullV v3) 0 rfl rfl (deps_of hd)).2.2, r, o⟩) (fun v6 hv => ?_)
 clear hv
 refine L_do (φ := fun v g w => RV g.m w ([] : List Int) v ∧ OS 3007 g w 3 ([] : List Int) v ∧ FullV v) rfl rfl .plain (fun g w hd => D_buildSlice (g := g) 3007 (xs := ([] : List Int)) (vs := []) Tryz.underlying23 Tryz.sizeOf3 Tryz.zeroValue3 rfl rfl .nil RVs.nil rfl rfl fun g' w' v hs o r hxt hfl => ⟨g', hxt, r, o, hfl⟩) (fun v8 hv => ?_)
 clear hv
 refine L_p (fPtr p1 1) rfl rfl (P_fieldAddr at_25_1 rfl (OB.ptr b1)) ?_
 refine L_ld (c := l8) rfl rfl .plain (fun _ _ h => ⟨h.ch, fun b hb _ => h.below.block b hb⟩) x6 rfl ?_
 refine L_do (φ := fun v g w => RV g.m w o0 v ∧ OS 3007 g w 3 o0 v) rfl rfl .plain (fun g w hd => D_append (g := g) (i := 3007) Tryz.underlying23 info_3 rfl rfl (word (A := fun g w => RV g.m w ([] : List Int) v8 ∧ OS 3007 g w 3 ([] : List Int) v8 ∧ FullV v8) 4 rfl rfl (deps_of hd)).2.1 (word (A := fun g w => RV g.m w ([] : List Int) v8 ∧ OS 3007 g w 3 ([] : List Int) v8 ∧ FullV v8) 4 rfl rfl (deps_of hd)).1 rfl (m8.ext hd.1) i7 fun g' w' v hs o r hf => ⟨g', hf (word (A := fun g w => RV g.m w ([] : List Int) v8 ∧ OS 3007 g w 3 ([] : List Int) v8 ∧ FullV v8) 4 rfl rfl (deps_of hd)).2.2, r, o⟩) (fun u3 hv => ?_)
 clear hv
 refine L_p (fPtr p1 0) rfl rfl (P_fieldAddr at_25_0 rfl (OB.ptr b1)) ?_
 refine L_nil fun n8 u9 hall => ?_
 have hs := hall.1
 have hfr := hfr.ext hs
 have b1 := b1.ext hs
 have b2 := b2.ext hs
 have y9 := (word_all (A := fun g w => RV g.m w ([] : List PayRate) v3 ∧ OS 3003 g w 87 ([] : List PayRate) v3 ∧ FullV v3) 0 rfl hall).1
 have o18 := (word_all (A := fun g w => RV g.m w ([] : List PayRate) v3 ∧ OS 3003 g w 87 ([] : List PayRate) v3 ∧ FullV v3) 0 rfl hall).2.1
 have x5 := (word_all (A := fun g w => RV g.m w y7 v6 ∧ OS 3003 g w 87 y7 v6) 3 rfl hall).1
 have o21 := (word_all (A := fun g w => RV g.m w y7 v6 ∧ OS 3003 g w 87 y7 v6) 3 rfl hall).2
 have bA := (word_all (A := fun g w => RV g.m w ([] : List Int) v8 ∧ OS 3007 g w 3 ([] : List Int) v8 ∧ FullV v8) 4 rfl hall).1
 have o22 := (word_all (A := fun g w => RV g.m w ([] : List Int) v8 ∧ OS 3007 g w 3 ([] : List Int) v8 ∧ FullV v8) 4 rfl hall).2.1
 have l5 := (word_all (A := fun g w => RV g.m w o0 u3 ∧ OS 3007 g w 3 o0 u3) 7 rfl hall).1
 have o25 := (word_all (A := fun g w => RV g.m w o0 u3 ∧ OS 3007 g w 3 o0 u3) 7 rfl hall).2
 clear hs hall
 refine EL_do .plain rfl (D_storeFc (g := n8) part_PayList_0 Tryz.sizeOf22 rfl b1 rfl x5 fun r8 iA hs b27 rst hos => ?_)
 have t5 := hos _ _ 3003 87 (y7 : List PayRate) (rv_cells1 x5) rfl o21
 clear rst hos
 have hfr := hfr.stp hs
 have b2 := b2.stp hs rfl
 have l5 := l5.stp hs
 have o25 := o25.stp hs rfl
 refine EL_p (fPtr p1 1) (P_fieldAddr at_25_1 rfl (OB.ptr b27)) rfl ?_
 refine EL_do .plain rfl (D_storeFc (g := r8) part_PayList_1 Tryz.sizeOf23 rfl b27 rfl l5 fun i6 w29 hs b29 rst hos => ?_)
 have t5 := t5.rest hs rst
 have k9 := hos _ _ 3007 3 (o0 : List Int) (rv_cells1 l5) rfl o25
 clear rst hos
 have hfr := hfr.stp hs
 have b2 := b2.stp hs rfl
 refine EL_nil (thn_n (E_seq (E_region (EL_do .plain rfl (D_loadO (g := i6) Tryz.isAgg25 Tryz.sizeOf25 rfl b29 fun a9 d9 => ?_)))))
 refine EL_do .plain rfl (D_storeOc (g := i6) (v := a9) Tryz.sizeOf25 rfl b2 rfl d9 fun yA aB hs b31 cb => ?_)
 clear cb
 have hfr := hfr.stp hs
 refine EL_nil (thn_n (E_ret ?_))
 obtain rfl := sinj h
 obtain ⟨ad32, cv32, hp32, m7, cr32⟩ := ob_read Tryz.isAgg25 Tryz.sizeOf25 b31
 exact endm_c rfl rfl ((show _ = p2 from rfl).trans hp32) m7 ⟨_, hfr, cr32⟩
def f14 (x0 : List PayPiece) : Option ((List PayPiece)) :=
 Option.bind (α := (List PayPiece)) (
  lp (σ := (List PayPiece) × Int) (fun oB (x5, t5) =>
   jn (σ := Unit) (fun _ =>
    Option.bind (α := (List PayPiece)) (
     (idx x0 t5).bind fun y63 =>
     (apnd 8 (([] : List Int)) ((y63).Extras)).bind fun g8 =>
     (apnd 56 x5 (([{ y63 with Extras := g8 }] : List PayPiece))).bind fun y79 =>
     some (y79)
     ) fun i6 =>
    oB (i6, (w64 (t5 + (1 : Int))))
    ) fun tB =>
   bif (decide (t5 < ((x0).length : Int))) then
    tB ()
   else
    some (x5)
   ) big (([] : List PayPiece), (0 : Int))
  ) fun x6 =>
 some (x6)
theorem en14 : Enters Tryz.prog 14 := enters_of Tryz.func14 (by kernel_rfl) rfl
theorem wk14 {gI : Gh} {wI : World} {x0 : List PayPiece} {up0 : Value} (rp0 : RV gI.m wI x0 up0) {r : (List PayPiece)} (h : f14 x0 = some r) : Fn Tryz.prog 14 #[up0] gI wI (fun m w v => RV m w (r) v) := by
 unfold f14 at h
 refine fn_of_E Tryz.func14 rfl (Nat.le_of_ble_eq_true rfl) fun g0 hm hfr => ?_
 have rp0 : RV g0.m wI x0 up0 := hm ▸ rp0
 show E _ 27 none _ _ _ _ _
 refine E_seq (E_region (EL_at (.slice none 0 0) rfl rfl ?_))
 refine EL_nil (thn_n (E_seq (E_region (EL_do .plain rfl (D_buildSlice (g := g0) 3006 (xs := ([] : List PayPiece)) (vs := []) Tryz.underlying33 Tryz.sizeOf27 Tryz.zeroValue27 rfl rfl .nil RVs.nil rfl rfl fun g1 w1 v1 hs o1 r1 hxt hfl => ?_)))))
 have hfr := hfr.stp hs
 have rp0 := rp0.stp hs
 refine EL_at v1 rfl rfl ?_
 refine EL_nil (thn_n ?_)
 obtain ⟨x6, hx, h⟩ := bsome h
 refine E_join (fun e w => ∃ (g : Gh) (v3 : Value), Fr gI wI g w ∧ e 3 = v3 ∧ RV g.m w (x6 : List PayPiece) v3 ∧ OS 3006 g w 27 (x6 : List PayPiece) v3) (fun Q' hQ => ?_) (fun mE vE hR => ?_)
 ·replace h := hx
  clear hx
  refine E_seq (E_region (EL_at (.int .i64 (0)) rfl rfl ?_))
  refine EL_nil (thn_n (E_block ?_))
  refine E_lp h (fun (s : (List PayPiece) × Int) e w => ∃ (g : Gh) (v3 : Value), Fr gI wI g w ∧ e 0 = up0 ∧ RV g.m w (x0 : List PayPiece) up0 ∧ e 3 = v3 ∧ RV g.m w (s.1 : List PayPiece) v3 ∧ OS 3006 g w 27 (s.1 : List PayPiece) v3 ∧ e 4 = .int .i64 (s.2)) ⟨g1, (v1), hfr, rfl, rp0, rfl, r1, o1, rfl⟩ (fun X41 oB uC => ?_)
  rintro ⟨x5, t5⟩ oE xE ⟨vB, i7, hfr, k8, l8, m8, n8, r8, v8⟩ h
  refine E_joinC h (fun (s : Unit) e w => ∃ (g : Gh) , Fr gI wI g w ∧ e 0 = up0 ∧ RV g.m w (x0 : List PayPiece) up0 ∧ e 3 = i7 ∧ RV g.m w (x5 : List PayPiece) i7 ∧ OS 3006 g w 27 (x5 : List PayPiece) i7 ∧ e 4 = .int .i64 (t5)) (fun X44 tB vC h => ?_) ?_
  ·refine E_seq (E_region (EL_mv v8 rfl ?_))
   refine EL_mv k8 rfl ?_
   refine EL_p (.int .i64 ((x0).length : Int)) (P_len Tryz.underlying33 rfl l8) rfl ?_
   refine EL_in (.bool ((decide (t5 < ((x0).length : Int))))) rfl rfl rfl rfl ?_
   refine EL_nil (thn_n ?_)
   rcases csome h with ⟨m7, h⟩ | ⟨m7, h⟩
   ·refine E_ct m7 rfl ?_
    exact E_skip (thn_n (vC () _ _ ⟨vB, hfr, k8, l8, m8, n8, r8, v8⟩ h))
   ·refine E_cf m7 rfl ?_
    refine E_exit ?_
    refine thn_e ?_
    refine thn_e ?_
    refine blk_hit ?_
    obtain rfl := sinj h
    exact hQ _ _ ⟨vB, (i7), hfr, m8, n8, r8⟩
  ·rintro _ rE yE ⟨yB, hfr, a9, o0, y9, u3, l5, d9⟩ h
   obtain ⟨i6, hx, h⟩ := bsome h
   refine E_join (fun e w => ∃ (g : Gh) (v3 : Value), Fr gI wI g w ∧ e 0 = up0 ∧ RV g.m w (x0 : List PayPiece) up0 ∧ e 3 = v3 ∧ RV g.m w (i6 : List PayPiece) v3 ∧ OS 3006 g w 27 (i6 : List PayPiece) v3 ∧ e 4 = .int .i64 (t5)) (fun Q' hQ => ?_) (fun uE zE hR => ?_)
   ·replace h := hx
    clear hx
    refine E_block ?_
    refine E_seq (E_region (EL_mv a9 rfl ?_))
    refine EL_mv d9 rfl ?_
    obtain ⟨y63, l9, h⟩ := bsome h
    refine EL_p (ePtr up0 t5 5) (P_indexAddr (α := PayPiece) Tryz.underlying33 Tryz.sizeOf27 rfl o0 rfl l9) rfl ?_
    have cD := PT_idx o0 l9
    refine EL_do .plain rfl (D_load (g := yB) Tryz.isAgg27 Tryz.sizeOf27 rfl cD fun eD n9 => ?_)
    refine EL_do .plain rfl (D_allocOc (g := yB) 2005 (⟨0, 0, 0, [], 0⟩ : PayPiece) Tryz.zeroValue27 (fun m w => ⟨_, (rep_two rep_int (rep_two rep_int (rep_two rep_int (rep_two rep_nil rep_int)))), rfl⟩) fun zB iD u9 hs b67 cb => ?_)
    have hfr := hfr.stp hs
    have o0 := o0.stp hs
    have u3 := u3.stp hs
    have l5 := l5.stp hs rfl
    have n9 := n9.stp hs
    have bE : OSF 2005 60503 3 zB iD 3 27 ([] : List Int) u9 := cb.osf (by rfl)
    clear cb
    refine EL_do .plain rfl (D_storeOc (g := zB) (v := eD) Tryz.sizeOf27 rfl b67 rfl n9 fun jD cF hs b68 cb => ?_)
    clear cb
    have hfr := hfr.stp hs
    have o0 := o0.stp hs
    have u3 := u3.stp hs
    have l5 := l5.stp hs rfl
    refine EL_nil (thn_n (E_seq (E_region (EL_do .plain rfl (D_buildSlice (g := jD) 3017 (xs := ([] : List Int)) (vs := []) Tryz.underlying23 Tryz.sizeOf3 Tryz.zeroValue3 rfl rfl .nil RVs.nil rfl rfl fun cC dF eF hs o69 lD hxt hfl => ?_)))))
    have hfr := hfr.stp hs
    have o0 := o0.stp hs
    have u3 := u3.stp hs
    have l5 := l5.stp hs rfl
    have b68 := b68.stp hs rfl
    refine EL_p (fPtr u9 3) (P_fieldAddr at_27_3 rfl (OB.ptr b68)) rfl ?_
    refine EL_do .plain rfl (D_loadF (g := cC) part_PayPiece_3.1 Tryz.isAgg23 Tryz.sizeOf23 rfl b68 fun rF nD => ?_)
    obtain ⟨g8, aD, h⟩ := bsome h
    refine EL_do .plain rfl (D_append (g := cC) (i := 3017) Tryz.underlying23 info_3 rfl rfl o69 lD rfl nD aD fun oD sF tF hs o72 mC _ => ?_)
    have hfr := hfr.stp hs
    have o0 := o0.stp hs
    have u3 := u3.stp hs
    have l5 := l5.stp hs rfl
    have b68 := b68.stp hs rfl
    refine EL_p (fPtr u9 3) (P_fieldAddr at_27_3 rfl (OB.ptr b68)) rfl ?_
    refine EL_do .plain rfl (D_storeFc (g := oD) part_PayPiece_3 Tryz.sizeOf23 rfl b68 rfl mC fun qC uF hs b75 rst hos => ?_)
    have iE := hos _ _ 3017 3 (g8 : List Int) (rv_cells1 mC) rfl o72
    clear rst hos
    have hfr := hfr.stp hs
    have o0 := o0.stp hs
    have u3 := u3.stp hs
    have l5 := l5.stp hs rfl
    refine EL_nil (thn_n (E_region (EL_mv y9 rfl ?_)))
    refine EL_do .plain rfl (D_loadO (g := qC) Tryz.isAgg27 Tryz.sizeOf27 rfl b75 fun sD tD => ?_)
    refine EL_do .plain rfl (D_buildSlice (g := qC) 3024 (xs := ([{ y63 with Extras := g8 }] : List PayPiece)) (vs := [sD]) Tryz.underlying33 Tryz.sizeOf27 Tryz.zeroValue27 rfl rfl (.cons rfl .nil) (RVs.cons tD RVs.nil) rfl rfl fun uD vF xF hs o77 xD hxt hfl => ?_)
    have hfr := hfr.stp hs
    have o0 := o0.stp hs
    have u3 := u3.stp hs
    have l5 := l5.stp hs rfl
    obtain ⟨y79, bD, h⟩ := bsome h
    refine EL_do .plain rfl (D_append (g := uD) (i := 3006) Tryz.underlying33 info_27 rfl rfl l5 u3 rfl xD bD fun yD yF rC hs o78 zD _ => ?_)
    have hfr := hfr.stp hs
    have o0 := o0.stp hs
    refine EL_at rC rfl rfl ?_
    refine EL_nil (blk_n ?_)
    obtain rfl := sinj h
    exact hQ _ _ ⟨yD, (rC), hfr, a9, o0, rfl, zD, o78, d9⟩
   ·clear hx
    obtain ⟨aE, bA, hfr, iA, yA, aB, dB, iB, lB⟩ := hR
    refine E_region (EL_mv lB rfl ?_)
    refine EL_in (.int .i64 ((w64 (t5 + (1 : Int))))) rfl rfl rfl rfl ?_
    refine EL_at (.int .i64 ((w64 (t5 + (1 : Int))))) rfl rfl ?_
    exact EL_nil (thn_n (uC (i6, (w64 (t5 + (1 : Int)))) _ _ ⟨aE, (bA), hfr, iA, yA, aB, dB, iB, rfl⟩ h))
 ·clear hx
  obtain ⟨aG, k9, hfr, mB, nB, lE⟩ := hR
  refine E_seq (E_region (EL_mv mB rfl ?_))
  refine EL_at k9 rfl rfl ?_
  refine EL_nil (thn_n (E_ret ?_))
  obtain rfl := sinj h
  exact end1 rfl rfl (show _ = k9 from rfl) ⟨_, hfr, nB⟩
def f38 (x0 : Prices) : Option (PayList) :=
 (rem64 (w64 ((4 : Int) * (((x0).Cap).toNat : Int))) (1001 : Int)).bind fun y7 =>
 Option.bind (α := PayList) (
  lp (σ := PayList × Int × Int) (fun xG (l5, i7, o0) =>
   jn (σ := Unit) (fun _ =>
    Option.bind (α := PayList × Int) (
     Option.bind (α := Int) (
      bif (decide (o0 < (((x0).Rates).length : Int))) then
       (idx ((x0).Rates) o0).bind fun y227 =>
       (idx (y227).toList (1 : Int)).bind fun y229 =>
       (rem64 ((y229).toNat : Int) (10001 : Int)).bind fun y232 =>
       some (y232)
      else
       some ((25 : Int))
      ) fun s6_233 =>
     Option.bind (α := Int) (
      bif (decide (o0 > (0 : Int))) then
       (idx ((x0).Rates) o0).bind fun y246 =>
       (idx (y246).toList (0 : Int)).bind fun y248 =>
       (rem64 ((y248).toNat : Int) (150 : Int)).bind fun y251 =>
       some ((w64 (i7 + (w64 ((1 : Int) + y251)))))
      else
       some (i7)
      ) fun s4_252 =>
     (apnd 16 ((l5).Rates) (([(⟨s4_252, s6_233⟩ : PayRate)] : List PayRate))).bind fun y258 =>
     some ({ l5 with Rates := y258 }, s4_252)
     ) fun (m3_261, s4_261) =>
    xG (m3_261, s4_261, (w64 (o0 + (1 : Int))))
    ) fun yG =>
   Option.bind (α := Bool) (
    bif (o0 == (0 : Int)) then
     some (true)
    else
     bif (decide (o0 < (((x0).Rates).length : Int))) then
      some ((decide (o0 < (6 : Int))))
     else
      some (false)
    ) fun n8 =>
   bif n8 then
    yG ()
   else
    some (l5)
   ) big ((⟨[], [], (((x0).Fine).toNat : Int), y7⟩ : PayList), (0 : Int), (0 : Int))
  ) fun y9 =>
 Option.bind (α := PayList) (
  lp (σ := PayList × Int) (fun zG (x5, u3) =>
   jn (σ := Unit) (fun _ =>
    Option.bind (α := PayList) (
     (idx ((x0).Extras) u3).bind fun i6 =>
     (apnd 8 ((x5).Extras) (([(w64 ((3 : Int) * ((i6).toNat : Int)))] : List Int))).bind fun cG =>
     some ({ x5 with Extras := cG })
     ) fun a9 =>
    zG (a9, (w64 (u3 + (1 : Int))))
    ) fun aH =>
   Option.bind (α := Bool) (
    bif (decide (u3 < (((x0).Extras).length : Int))) then
     some ((decide (u3 < (8 : Int))))
    else
     some (false)
    ) fun d9 =>
   bif d9 then
    aH ()
   else
    some (x5)
   ) big (y9, (0 : Int))
  ) fun bA =>
 some (bA)
theorem en38 : Enters Tryz.prog 38 := enters_of Tryz.func38 (by kernel_rfl) rfl
theorem wk38 {gI : Gh} {wI : World} {x0 : Prices} {up0 : Value} (rp0 : RV gI.m wI x0 up0) {r : PayList} (h : f38 x0 = some r) : Fn Tryz.prog 38 #[up0] gI wI (fun m w v => RV m w (r) v) := by
 unfold f38 at h
 refine fn_of_E Tryz.func38 rfl (Nat.le_of_ble_eq_true rfl) fun g0 hm hfr => ?_
 have rp0 : RV g0.m wI x0 up0 := hm ▸ rp0
 show E _ 90 none _ _ _ _ _
 refine E_seq (E_region (EL_do .plain rfl (D_box (g := g0) rfl rp0 fun g1 w1 p1 hs q1 => ?_)))
 have hfr := hfr.ext hs
 refine EL_do .plain rfl (D_allocOc (g := g1) 2002 (⟨[], [], 0, 0⟩ : PayList) Tryz.zeroValue25 (fun m w => ⟨_, (rep_two rep_nil (rep_two rep_nil (rep_two rep_int rep_int))), rfl⟩) fun g2 w2 p2 hs b2 cb => ?_)
 have hfr := hfr.stp hs
 have q1 := q1.stp hs
 have tB : OSF 2002 60200 0 g2 w2 87 25 ([] : List PayRate) p2 := cb.osf (by rfl)
 have vB : OSF 2002 60201 1 g2 w2 3 25 ([] : List Int) p2 := cb.osf (by rfl)
 clear cb
 refine EL_nil (thn_n (E_seq (E_region (EL_p (fPtr p1 2) (P_fieldAddr at_75_2 rfl (PT.ptr q1)) rfl ?_))))
 have q3 := PT_field (part_Prices_2).1 q1
 refine EL_do .plain rfl (D_load (g := g2) Tryz.isAgg5 Tryz.sizeOf5 rfl q3 fun v4 r4 => ?_)
 obtain rfl := RV_u8.1 r4
 refine EL_p (.int .i64 ((((x0).Fine).toNat : Int))) (P_u8int Tryz.underlying5 Tryz.underlying3 rfl) rfl ?_
 refine EL_p (fPtr p1 3) (P_fieldAddr at_75_3 rfl (PT.ptr q1)) rfl ?_
 have q5 := PT_field (part_Prices_3).1 q1
 refine EL_do .plain rfl (D_load (g := g2) Tryz.isAgg5 Tryz.sizeOf5 rfl q5 fun v6 r6 => ?_)
 obtain rfl := RV_u8.1 r6
 refine EL_p (.int .i64 ((((x0).Cap).toNat : Int))) (P_u8int Tryz.underlying5 Tryz.underlying3 rfl) rfl ?_
 refine EL_p (.int .i64 ((w64 ((4 : Int) * (((x0).Cap).toNat : Int))))) (P_int rfl rfl rfl) rfl ?_
 obtain ⟨y7, pM, h⟩ := bsome h
 refine EL_p (.int .i64 (y7)) (P_int rfl rfl (congrArg (Option.map (Value.int .i64)) pM)) rfl ?_
 have r8 : RV g2.m w2 (⟨[], [], (((x0).Fine).toNat : Int), y7⟩ : PayList) (.agg (setCh [[.slice none 0 0], [.slice none 0 0], [.int .i64 0], [.int .i64 0]] [(2, .int .i64 ((((x0).Fine).toNat : Int))), (3, .int .i64 (y7))]).flatten.toArray) := RV_build rfl (rep_pair (rep_nil) (rep_pair (rep_nil) (rep_pair (rfl) (rep_last (rfl)))))
 generalize cH : (Value.agg (setCh [[.slice none 0 0], [.slice none 0 0], [.int .i64 0], [.int .i64 0]] [(2, .int .i64 ((((x0).Fine).toNat : Int))), (3, .int .i64 (y7))]).flatten.toArray) = v8 at r8
 refine EL_p v8 (cH ▸ P_build (vs := [(2, .int .i64 ((((x0).Fine).toNat : Int))), (3, .int .i64 (y7))]) [[.slice none 0 0], [.slice none 0 0], [.int .i64 0], [.int .i64 0]] lay_25 rfl rfl (.cons rfl (.cons rfl .nil)) ⟨⟨_, rfl, rfl⟩, ⟨⟨_, rfl, rfl⟩, trivial⟩⟩) rfl ?_
 refine EL_do .plain rfl (D_allocOc (g := g2) 2003 (⟨[], [], 0, 0⟩ : PayList) Tryz.zeroValue25 (fun m w => ⟨_, (rep_two rep_nil (rep_two rep_nil (rep_two rep_int rep_int))), rfl⟩) fun g9 w9 p9 hs b9 cb => ?_)
 have hfr := hfr.stp hs
 have q1 := q1.stp hs
 have tB := tB.stp hs rfl
 have vB := vB.stp hs rfl
 have b2 := b2.stp hs rfl
 have r8 := r8.stp hs
 have iN : OSF 2003 60300 0 g9 w9 87 25 ([] : List PayRate) p9 := cb.osf (by rfl)
 have jN : OSF 2003 60301 1 g9 w9 3 25 ([] : List Int) p9 := cb.osf (by rfl)
 clear cb
 refine EL_do .plain rfl (D_storeOc (g := g9) (v := v8) Tryz.sizeOf25 rfl b9 rfl r8 fun dH zK hs b10 cb => ?_)
 have bK : OSF 2003 60300 0 dH zK 87 25 ([] : List PayRate) p9 := cb.osf (by rw [← cH]; rfl)
 have cK : OSF 2003 60301 1 dH zK 3 25 ([] : List Int) p9 := cb.osf (by rw [← cH]; rfl)
 clear cb
 have hfr := hfr.stp hs
 have q1 := q1.stp hs
 have tB := tB.stp hs rfl
 have vB := vB.stp hs rfl
 have b2 := b2.stp hs rfl
 refine EL_nil (thn_n (E_seq (E_region (EL_at (.int .i64 (0)) rfl rfl ?_))))
 refine EL_nil (thn_n ?_)
 obtain ⟨y9, hx, h⟩ := bsome h
 refine E_join (fun e w => ∃ (g : Gh) , Fr gI wI g w ∧ e 1 = p1 ∧ PT g.m w (x0 : Prices) p1 ∧ e 2 = p2 ∧ OB 2002 g w 25 ((⟨[], [], 0, 0⟩ : PayList) : PayList) p2 ∧ OSF 2002 60200 0 g w 87 25 (((⟨[], [], 0, 0⟩ : PayList)).Rates) p2 ∧ OSF 2002 60201 1 g w 3 25 (((⟨[], [], 0, 0⟩ : PayList)).Extras) p2 ∧ e 3 = p9 ∧ OB 2003 g w 25 (y9 : PayList) p9 ∧ OSF 2003 60300 0 g w 87 25 ((y9).Rates) p9 ∧ OSF 2003 60301 1 g w 3 25 ((y9).Extras) p9) (fun Q' hQ => ?_) (fun qM kN hR => ?_)
 ·replace h := hx
  clear hx
  refine E_seq (E_region (EL_at (.int .i64 (0)) rfl rfl ?_))
  refine EL_nil (thn_n (E_block ?_))
  refine E_lp h (fun (s : PayList × Int × Int) e w => ∃ (g : Gh) , Fr gI wI g w ∧ e 1 = p1 ∧ PT g.m w (x0 : Prices) p1 ∧ e 2 = p2 ∧ OB 2002 g w 25 ((⟨[], [], 0, 0⟩ : PayList) : PayList) p2 ∧ OSF 2002 60200 0 g w 87 25 (((⟨[], [], 0, 0⟩ : PayList)).Rates) p2 ∧ OSF 2002 60201 1 g w 3 25 (((⟨[], [], 0, 0⟩ : PayList)).Extras) p2 ∧ e 3 = p9 ∧ OB 2003 g w 25 (s.1 : PayList) p9 ∧ OSF 2003 60300 0 g w 87 25 ((s.1).Rates) p9 ∧ OSF 2003 60301 1 g w 3 25 ((s.1).Extras) p9 ∧ e 4 = .int .i64 (s.2.1) ∧ e 5 = .int .i64 (s.2.2)) ⟨dH, hfr, rfl, q1, rfl, b2, tB, vB, rfl, b10, bK, cK, rfl, rfl⟩ (fun X137 xG dK => ?_)
  rintro ⟨l5, i7, o0⟩ rM lN ⟨iD, hfr, yA, iA, yB, zB, u2_0_138, u2_1_138, cC, mC, u3_0_138, u3_1_138, qC, k9⟩ h
  refine E_joinC h (fun (s : Unit) e w => ∃ (g : Gh) , Fr gI wI g w ∧ e 1 = p1 ∧ PT g.m w (x0 : Prices) p1 ∧ e 2 = p2 ∧ OB 2002 g w 25 ((⟨[], [], 0, 0⟩ : PayList) : PayList) p2 ∧ OSF 2002 60200 0 g w 87 25 (((⟨[], [], 0, 0⟩ : PayList)).Rates) p2 ∧ OSF 2002 60201 1 g w 3 25 (((⟨[], [], 0, 0⟩ : PayList)).Extras) p2 ∧ e 3 = p9 ∧ OB 2003 g w 25 (l5 : PayList) p9 ∧ OSF 2003 60300 0 g w 87 25 ((l5).Rates) p9 ∧ OSF 2003 60301 1 g w 3 25 ((l5).Extras) p9 ∧ e 4 = .int .i64 (i7) ∧ e 5 = .int .i64 (o0)) (fun X149 yG lK h => ?_) ?_
  ·obtain ⟨n8, hx, h⟩ := bsome h
   refine E_join (fun e w => ∃ (g : Gh) , Fr gI wI g w ∧ e 1 = p1 ∧ PT g.m w (x0 : Prices) p1 ∧ e 2 = p2 ∧ OB 2002 g w 25 ((⟨[], [], 0, 0⟩ : PayList) : PayList) p2 ∧ OSF 2002 60200 0 g w 87 25 (((⟨[], [], 0, 0⟩ : PayList)).Rates) p2 ∧ OSF 2002 60201 1 g w 3 25 (((⟨[], [], 0, 0⟩ : PayList)).Extras) p2 ∧ e 3 = p9 ∧ OB 2003 g w 25 (l5 : PayList) p9 ∧ OSF 2003 60300 0 g w 87 25 ((l5).Rates) p9 ∧ OSF 2003 60301 1 g w 3 25 ((l5).Extras) p9 ∧ e 4 = .int .i64 (i7) ∧ e 5 = .int .i64 (o0) ∧ e 29 = .bool (n8)) (fun Q' hQ => ?_) (fun sM mN hR => ?_)
   ·replace h := hx
    clear hx
    refine E_region (EL_mv k9 rfl ?_)
    refine EL_in (.bool ((o0 == (0 : Int)))) rfl rfl rfl rfl ?_
    refine EL_mw (.bool ((o0 == (0 : Int)))) rfl rfl ?_
    rcases csome h with ⟨t5, h⟩ | ⟨t5, h⟩
    ·refine EL_s rfl rfl t5 rfl rfl ?_
     iterate 5 refine EL_s rfl rfl t5 rfl rfl ?_
     refine EL_skip (.off rfl rfl) rfl ?_
     refine EL_skip (.off rfl rfl) rfl ?_
     refine EL_s rfl rfl t5 rfl rfl ?_
     refine EL_p (.bool true) (P_pick (b := (o0 == (0 : Int))) rfl (pick_t t5 rfl)) rfl ?_
     refine EL_nil ?_
     obtain rfl := sinj h
     exact hQ _ _ ⟨iD, hfr, yA, iA, yB, zB, u2_0_138, u2_1_138, cC, mC, u3_0_138, u3_1_138, qC, k9, rfl⟩
    ·refine EL_y (.int .i64 (o0)) (P_move k9) rfl rfl t5 rfl ?_
     refine EL_y (fPtr p1 0) (P_fieldAddr at_75_0 yA (PT.ptr iA)) rfl rfl t5 rfl ?_
     have aL := PT_field (part_Prices_0).1 iA
     refine EL_do (.yes2 rfl rfl t5) rfl (D_load (g := iD) Tryz.isAgg72 Tryz.sizeOf72 rfl aL fun nN bL => ?_)
     refine EL_y (.int .i64 (((x0).Rates).length : Int)) (P_len Tryz.underlying72 rfl bL) rfl rfl t5 rfl ?_
     refine EL_y (.bool ((decide (o0 < (((x0).Rates).length : Int))))) (P_int rfl rfl rfl) rfl rfl t5 rfl ?_
     refine EL_y (.bool ((decide (o0 < (((x0).Rates).length : Int))))) (P_move rfl) rfl rfl t5 rfl ?_
     rcases csome h with ⟨n9, h⟩ | ⟨n9, h⟩
     ·refine EL_y (.int .i64 (o0)) (P_move k9) rfl rfl n9 rfl ?_
      refine EL_y (.bool ((decide (o0 < (6 : Int))))) (P_int rfl rfl rfl) rfl rfl n9 rfl ?_
      refine EL_y (.bool ((decide (o0 < (6 : Int))))) (P_pick (b := (decide (o0 < (((x0).Rates).length : Int)))) rfl (pick_t n9 rfl)) rfl rfl t5 rfl ?_
      refine EL_p (.bool ((decide (o0 < (6 : Int))))) (P_pick (b := (o0 == (0 : Int))) rfl (pick_f t5 rfl)) rfl ?_
      refine EL_nil ?_
      obtain rfl := sinj h
      exact hQ _ _ ⟨iD, hfr, yA, iA, yB, zB, u2_0_138, u2_1_138, cC, mC, u3_0_138, u3_1_138, qC, k9, rfl⟩
     ·refine EL_s rfl rfl n9 rfl rfl ?_
      refine EL_s rfl rfl n9 rfl rfl ?_
      refine EL_y (.bool false) (P_pick (b := (decide (o0 < (((x0).Rates).length : Int)))) rfl (pick_f n9 rfl)) rfl rfl t5 rfl ?_
      refine EL_p (.bool false) (P_pick (b := (o0 == (0 : Int))) rfl (pick_f t5 rfl)) rfl ?_
      refine EL_nil ?_
      obtain rfl := sinj h
      exact hQ _ _ ⟨iD, hfr, yA, iA, yB, zB, u2_0_138, u2_1_138, cC, mC, u3_0_138, u3_1_138, qC, k9, rfl⟩
   ·clear hx
    obtain ⟨gH, hfr, tD, uD, xD, yD, u2_0_158, u2_1_158, zD, aE, u3_0_158, u3_1_158, iH, jH, cD⟩ := hR
    rcases csome h with ⟨jD, h⟩ | ⟨jD, h⟩
    ·refine E_cond_true (Eq.trans (show ev _ _ = .bool (n8) from cD) (congrArg Value.bool jD)) ?_
     exact E_skip (thn_n (lK () _ _ ⟨gH, hfr, tD, uD, xD, yD, u2_0_158, u2_1_158, zD, aE, u3_0_158, u3_1_158, iH, jH⟩ h))
    ·refine E_cond_false (Eq.trans (show ev _ _ = .bool (n8) from cD) (congrArg Value.bool jD)) ?_
     refine E_exit ?_
     refine thn_e ?_
     refine thn_e ?_
     refine blk_hit ?_
     obtain rfl := sinj h
     exact hQ _ _ ⟨gH, hfr, tD, uD, xD, yD, u2_0_158, u2_1_158, zD, aE, u3_0_158, u3_1_158⟩
  ·rintro _ tM oN ⟨rC, hfr, aB, l9, bE, iE, u2_0_160, u2_1_160, lE, mE, u3_0_160, u3_1_160, oE, dB⟩ h
   obtain ⟨⟨m3_261, s4_261⟩, hx, h⟩ := bsome h
   refine E_join (fun e w => ∃ (g : Gh) , Fr gI wI g w ∧ e 1 = p1 ∧ PT g.m w (x0 : Prices) p1 ∧ e 2 = p2 ∧ OB 2002 g w 25 ((⟨[], [], 0, 0⟩ : PayList) : PayList) p2 ∧ OSF 2002 60200 0 g w 87 25 (((⟨[], [], 0, 0⟩ : PayList)).Rates) p2 ∧ OSF 2002 60201 1 g w 3 25 (((⟨[], [], 0, 0⟩ : PayList)).Extras) p2 ∧ e 3 = p9 ∧ OB 2003 g w 25 (m3_261 : PayList) p9 ∧ OSF 2003 60300 0 g w 87 25 ((m3_261).Rates) p9 ∧ OSF 2003 60301 1 g w 3 25 ((m3_261).Extras) p9 ∧ e 4 = .int .i64 (s4_261) ∧ e 5 = .int .i64 (o0)) (fun Q' hQ => ?_) (fun uM pN hR => ?_)
   ·replace h := hx
    clear hx
    refine E_block ?_
    refine E_seq (E_region (EL_at (.int .i64 (25)) rfl rfl ?_))
    refine EL_nil (thn_n ?_)
    obtain ⟨s6_233, hx, h⟩ := bsome h
    refine E_join (fun e w => ∃ (g : Gh) , Fr gI wI g w ∧ e 1 = p1 ∧ PT g.m w (x0 : Prices) p1 ∧ e 2 = p2 ∧ OB 2002 g w 25 ((⟨[], [], 0, 0⟩ : PayList) : PayList) p2 ∧ OSF 2002 60200 0 g w 87 25 (((⟨[], [], 0, 0⟩ : PayList)).Rates) p2 ∧ OSF 2002 60201 1 g w 3 25 (((⟨[], [], 0, 0⟩ : PayList)).Extras) p2 ∧ e 3 = p9 ∧ OB 2003 g w 25 (l5 : PayList) p9 ∧ OSF 2003 60300 0 g w 87 25 ((l5).Rates) p9 ∧ OSF 2003 60301 1 g w 3 25 ((l5).Extras) p9 ∧ e 4 = .int .i64 (i7) ∧ e 5 = .int .i64 (o0) ∧ e 6 = .int .i64 (s6_233)) (fun Q' hQ => ?_) (fun vM qN hR => ?_)
    ·replace h := hx
     clear hx
     refine E_seq (E_region (EL_mv dB rfl ?_))
     refine EL_p (fPtr p1 0) (P_fieldAddr at_75_0 aB (PT.ptr l9)) rfl ?_
     have dL := PT_field (part_Prices_0).1 l9
     refine EL_do .plain rfl (D_load (g := rC) Tryz.isAgg72 Tryz.sizeOf72 rfl dL fun rN eL => ?_)
     refine EL_p (.int .i64 (((x0).Rates).length : Int)) (P_len Tryz.underlying72 rfl eL) rfl ?_
     refine EL_p (.bool ((decide (o0 < (((x0).Rates).length : Int))))) (P_int rfl rfl rfl) rfl ?_
     refine EL_nil (thn_n ?_)
     rcases csome h with ⟨lD, h⟩ | ⟨lD, h⟩
     ·refine E_ct lD rfl ?_
      refine E_region (EL_p (fPtr p1 0) (P_fieldAddr at_75_0 aB (PT.ptr l9)) rfl ?_)
      have gL := PT_field (part_Prices_0).1 l9
      refine EL_do .plain rfl (D_load (g := rC) Tryz.isAgg72 Tryz.sizeOf72 rfl gL fun kH lH => ?_)
      refine EL_mv dB rfl ?_
      obtain ⟨y227, jG, h⟩ := bsome h
      refine EL_p (ePtr kH o0 2) (P_indexAddr (α := Vector UInt16 2) Tryz.underlying72 Tryz.sizeOf142 rfl lH rfl jG) rfl ?_
      have mH := PT_idx lH jG
      obtain ⟨y229, kG, h⟩ := bsome h
      refine EL_p (fPtr (ePtr kH o0 2) (((1 : Int) : Int).toNat * 1)) (P_indexAddrA (α := UInt16) Tryz.underlying142 Tryz.sizeOf81 rfl (PT.ptr mH) rfl kG) rfl ?_
      have iL := PT_idxA mH kG
      refine EL_do .plain rfl (D_load (g := rC) Tryz.isAgg81 Tryz.sizeOf81 rfl iL fun sN jL => ?_)
      obtain rfl := RV_u16.1 jL
      refine EL_p (.int .i64 (((y229).toNat : Int))) (P_u16int Tryz.underlying81 Tryz.underlying3 rfl) rfl ?_
      obtain ⟨y232, mK, h⟩ := bsome h
      refine EL_p (.int .i64 (y232)) (P_int rfl rfl (congrArg (Option.map (Value.int .i64)) mK)) rfl ?_
      refine EL_at (.int .i64 (y232)) rfl rfl ?_
      refine EL_nil ?_
      obtain rfl := sinj h
      exact hQ _ _ ⟨rC, hfr, aB, l9, bE, iE, u2_0_160, u2_1_160, lE, mE, u3_0_160, u3_1_160, oE, dB, rfl⟩
     ·refine E_cf lD rfl ?_
      refine E_skip ?_
      obtain rfl := sinj h
      exact hQ _ _ ⟨rC, hfr, aB, l9, bE, iE, u2_0_160, u2_1_160, lE, mE, u3_0_160, u3_1_160, oE, dB, rfl⟩
    ·clear hx
     obtain ⟨nD, hfr, uC, iB, rE, uE, u2_0_233, u2_1_233, vE, xE, u3_0_233, u3_1_233, yE, lB, zE⟩ := hR
     obtain ⟨s4_252, hx, h⟩ := bsome h
     refine E_join (fun e w => ∃ (g : Gh) , Fr gI wI g w ∧ e 1 = p1 ∧ PT g.m w (x0 : Prices) p1 ∧ e 2 = p2 ∧ OB 2002 g w 25 ((⟨[], [], 0, 0⟩ : PayList) : PayList) p2 ∧ OSF 2002 60200 0 g w 87 25 (((⟨[], [], 0, 0⟩ : PayList)).Rates) p2 ∧ OSF 2002 60201 1 g w 3 25 (((⟨[], [], 0, 0⟩ : PayList)).Extras) p2 ∧ e 3 = p9 ∧ OB 2003 g w 25 (l5 : PayList) p9 ∧ OSF 2003 60300 0 g w 87 25 ((l5).Rates) p9 ∧ OSF 2003 60301 1 g w 3 25 ((l5).Extras) p9 ∧ e 4 = .int .i64 (s4_252) ∧ e 5 = .int .i64 (o0) ∧ e 6 = .int .i64 (s6_233)) (fun Q' hQ => ?_) (fun xM lL hR => ?_)
     ·replace h := hx
      clear hx
      refine E_seq (E_region (EL_mv lB rfl ?_))
      refine EL_in (.bool ((decide (o0 > (0 : Int))))) rfl rfl rfl rfl ?_
      refine EL_nil (thn_n ?_)
      rcases csome h with ⟨oD, h⟩ | ⟨oD, h⟩
      ·refine E_ct oD rfl ?_
       refine E_region (EL_mv yE rfl ?_)
       refine EL_p (fPtr p1 0) (P_fieldAddr at_75_0 uC (PT.ptr iB)) rfl ?_
       have mL := PT_field (part_Prices_0).1 iB
       refine EL_do .plain rfl (D_load (g := nD) Tryz.isAgg72 Tryz.sizeOf72 rfl mL fun nH oH => ?_)
       refine EL_mv lB rfl ?_
       obtain ⟨y246, lG, h⟩ := bsome h
       refine EL_p (ePtr nH o0 2) (P_indexAddr (α := Vector UInt16 2) Tryz.underlying72 Tryz.sizeOf142 rfl oH rfl lG) rfl ?_
       have pH := PT_idx oH lG
       obtain ⟨y248, mG, h⟩ := bsome h
       refine EL_p (fPtr (ePtr nH o0 2) (((0 : Int) : Int).toNat * 1)) (P_indexAddrA (α := UInt16) Tryz.underlying142 Tryz.sizeOf81 rfl (PT.ptr pH) rfl mG) rfl ?_
       have nL := PT_idxA pH mG
       refine EL_do .plain rfl (D_load (g := nD) Tryz.isAgg81 Tryz.sizeOf81 rfl nL fun tN oL => ?_)
       obtain rfl := RV_u16.1 oL
       refine EL_p (.int .i64 (((y248).toNat : Int))) (P_u16int Tryz.underlying81 Tryz.underlying3 rfl) rfl ?_
       obtain ⟨y251, nK, h⟩ := bsome h
       refine EL_p (.int .i64 (y251)) (P_int rfl rfl (congrArg (Option.map (Value.int .i64)) nK)) rfl ?_
       refine EL_in (.int .i64 ((w64 ((1 : Int) + y251)))) rfl rfl rfl rfl ?_
       refine EL_p (.int .i64 ((w64 (i7 + (w64 ((1 : Int) + y251)))))) (P_int rfl rfl rfl) rfl ?_
       refine EL_p (.int .i64 ((w64 (i7 + (w64 ((1 : Int) + y251)))))) (P_assign rfl) rfl ?_
       refine EL_nil ?_
       obtain rfl := sinj h
       exact hQ _ _ ⟨nD, hfr, uC, iB, rE, uE, u2_0_233, u2_1_233, vE, xE, u3_0_233, u3_1_233, rfl, lB, zE⟩
      ·refine E_cf oD rfl ?_
       refine E_skip ?_
       obtain rfl := sinj h
       exact hQ _ _ ⟨nD, hfr, uC, iB, rE, uE, u2_0_233, u2_1_233, vE, xE, u3_0_233, u3_1_233, yE, lB, zE⟩
     ·clear hx
      obtain ⟨eG, hfr, qH, k8, sH, l8, u2_0_252, u2_1_252, vC, m7, u3_0_252, u3_1_252, cF, tH, uH⟩ := hR
      refine E_region (EL_p (fPtr p9 0) (P_fieldAddr at_25_0 vC (OB.ptr m7)) rfl ?_)
      refine EL_do .plain rfl (D_loadFS (g := eG) part_PayList_0.1 Tryz.isAgg22 Tryz.sizeOf22 rfl m7 u3_0_252 fun uN gG o254 => ?_)
      refine EL_mv cF rfl ?_
      refine EL_mv uH rfl ?_
      have xH : RV eG.m lL (⟨s4_252, s6_233⟩ : PayRate) (.agg (setCh [[.int .i64 0], [.int .i64 0]] [(0, .int .i64 (s4_252)), (1, .int .i64 (s6_233))]).flatten.toArray) := RV_build rfl (rep_pair (rfl) (rep_last (rfl)))
      generalize oK : (Value.agg (setCh [[.int .i64 0], [.int .i64 0]] [(0, .int .i64 (s4_252)), (1, .int .i64 (s6_233))]).flatten.toArray) = yH at xH
      refine EL_p yH (oK ▸ P_build (vs := [(0, .int .i64 (s4_252)), (1, .int .i64 (s6_233))]) [[.int .i64 0], [.int .i64 0]] lay_87 rfl rfl (.cons rfl (.cons rfl .nil)) ⟨⟨_, rfl, rfl⟩, ⟨⟨_, rfl, rfl⟩, trivial⟩⟩) rfl ?_
      refine EL_do .plain rfl (D_buildSlice (g := eG) 3063 (xs := ([(⟨s4_252, s6_233⟩ : PayRate)] : List PayRate)) (vs := [yH]) Tryz.underlying22 Tryz.sizeOf87 Tryz.zeroValue87 rfl rfl (.cons rfl .nil) (RVs.cons xH RVs.nil) rfl rfl fun pL vN xN hs o256 qL hxt hfl => ?_)
      have hfr := hfr.stp hs
      have k8 := k8.stp hs
      have u2_0_252 := u2_0_252.stp hs rfl
      have u2_1_252 := u2_1_252.stp hs rfl
      have l8 := l8.stp hs rfl
      have u3_1_252 := u3_1_252.stp hs rfl
      have m7 := m7.stp hs rfl
      have gG := gG.stp hs
      have o254 := o254.stp hs rfl
      obtain ⟨y258, pK, h⟩ := bsome h
      refine EL_do .plain rfl (D_append (g := pL) (i := 60300) Tryz.underlying22 info_87 rfl rfl o254 gG rfl qL pK fun rL yN zN hs o257 zH _ => ?_)
      have hfr := hfr.stp hs
      have k8 := k8.stp hs
      have u2_0_252 := u2_0_252.stp hs rfl
      have u2_1_252 := u2_1_252.stp hs rfl
      have l8 := l8.stp hs rfl
      have u3_1_252 := u3_1_252.stp hs rfl
      have m7 := m7.stp hs rfl
      refine EL_p (fPtr p9 0) (P_fieldAddr at_25_0 vC (OB.ptr m7)) rfl ?_
      refine EL_do .plain rfl (D_storeFc (g := rL) part_PayList_0 Tryz.sizeOf22 rfl m7 rfl zH fun tL aO hs b260 rst hos => ?_)
      have u3_1_252 := u3_1_252.rest hs rst
      have aI := hos _ _ 60300 87 (y258 : List PayRate) (rv_cells1 zH) rfl o257
      clear rst hos
      have hfr := hfr.stp hs
      have k8 := k8.stp hs
      have u2_0_252 := u2_0_252.stp hs rfl
      have u2_1_252 := u2_1_252.stp hs rfl
      have l8 := l8.stp hs rfl
      refine EL_nil (blk_n ?_)
      obtain ⟨rfl, rfl⟩ := pairs2 h
      exact hQ _ _ ⟨tL, hfr, qH, k8, sH, l8, u2_0_252, u2_1_252, vC, b260, aI, u3_1_252, cF, tH⟩
   ·clear hx
    obtain ⟨uL, hfr, bI, dI, iI, jI, u2_0_261, u2_1_261, kI, lI, u3_0_261, u3_1_261, mI, nI⟩ := hR
    refine E_region (EL_mv nI rfl ?_)
    refine EL_in (.int .i64 ((w64 (o0 + (1 : Int))))) rfl rfl rfl rfl ?_
    refine EL_at (.int .i64 ((w64 (o0 + (1 : Int))))) rfl rfl ?_
    exact EL_nil (thn_n (dK (m3_261, s4_261, (w64 (o0 + (1 : Int)))) _ _ ⟨uL, hfr, bI, dI, iI, jI, u2_0_261, u2_1_261, kI, lI, u3_0_261, u3_1_261, mI, rfl⟩ h))
 ·clear hx
  obtain ⟨vL, hfr, pI, qI, sI, tI, u2_0_262, u2_1_262, uI, vI, u3_0_262, u3_1_262⟩ := hR
  obtain ⟨bA, hx, h⟩ := bsome h
  refine E_join (fun e w => ∃ (g : Gh) , Fr gI wI g w ∧ e 2 = p2 ∧ OB 2002 g w 25 ((⟨[], [], 0, 0⟩ : PayList) : PayList) p2 ∧ OSF 2002 60200 0 g w 87 25 (((⟨[], [], 0, 0⟩ : PayList)).Rates) p2 ∧ OSF 2002 60201 1 g w 3 25 (((⟨[], [], 0, 0⟩ : PayList)).Extras) p2 ∧ e 3 = p9 ∧ OB 2003 g w 25 (bA : PayList) p9 ∧ OSF 2003 60300 0 g w 87 25 ((bA).Rates) p9 ∧ OSF 2003 60301 1 g w 3 25 ((bA).Extras) p9) (fun Q' hQ => ?_) (fun bN bO hR => ?_)
  ·replace h := hx
   clear hx
   refine E_seq (E_region (EL_at (.int .i64 (0)) rfl rfl ?_))
   refine EL_nil (thn_n (E_block ?_))
   refine E_lp h (fun (s : PayList × Int) e w => ∃ (g : Gh) , Fr gI wI g w ∧ e 1 = p1 ∧ PT g.m w (x0 : Prices) p1 ∧ e 2 = p2 ∧ OB 2002 g w 25 ((⟨[], [], 0, 0⟩ : PayList) : PayList) p2 ∧ OSF 2002 60200 0 g w 87 25 (((⟨[], [], 0, 0⟩ : PayList)).Rates) p2 ∧ OSF 2002 60201 1 g w 3 25 (((⟨[], [], 0, 0⟩ : PayList)).Extras) p2 ∧ e 3 = p9 ∧ OB 2003 g w 25 (s.1 : PayList) p9 ∧ OSF 2003 60300 0 g w 87 25 ((s.1).Rates) p9 ∧ OSF 2003 60301 1 g w 3 25 ((s.1).Extras) p9 ∧ e 7 = .int .i64 (s.2)) ⟨vL, hfr, pI, qI, sI, tI, u2_0_262, u2_1_262, uI, vI, u3_0_262, u3_1_262, rfl⟩ (fun X338 zG qK => ?_)
   rintro ⟨x5, u3⟩ cN cO ⟨hG, hfr, aD, mB, dF, eF, u2_0_339, u2_1_339, rF, sF, u3_0_339, u3_1_339, nB⟩ h
   refine E_joinC h (fun (s : Unit) e w => ∃ (g : Gh) , Fr gI wI g w ∧ e 1 = p1 ∧ PT g.m w (x0 : Prices) p1 ∧ e 2 = p2 ∧ OB 2002 g w 25 ((⟨[], [], 0, 0⟩ : PayList) : PayList) p2 ∧ OSF 2002 60200 0 g w 87 25 (((⟨[], [], 0, 0⟩ : PayList)).Rates) p2 ∧ OSF 2002 60201 1 g w 3 25 (((⟨[], [], 0, 0⟩ : PayList)).Extras) p2 ∧ e 3 = p9 ∧ OB 2003 g w 25 (x5 : PayList) p9 ∧ OSF 2003 60300 0 g w 87 25 ((x5).Rates) p9 ∧ OSF 2003 60301 1 g w 3 25 ((x5).Extras) p9 ∧ e 7 = .int .i64 (u3)) (fun X348 aH sK h => ?_) ?_
   ·obtain ⟨d9, hx, h⟩ := bsome h
    refine E_join (fun e w => ∃ (g : Gh) , Fr gI wI g w ∧ e 1 = p1 ∧ PT g.m w (x0 : Prices) p1 ∧ e 2 = p2 ∧ OB 2002 g w 25 ((⟨[], [], 0, 0⟩ : PayList) : PayList) p2 ∧ OSF 2002 60200 0 g w 87 25 (((⟨[], [], 0, 0⟩ : PayList)).Rates) p2 ∧ OSF 2002 60201 1 g w 3 25 (((⟨[], [], 0, 0⟩ : PayList)).Extras) p2 ∧ e 3 = p9 ∧ OB 2003 g w 25 (x5 : PayList) p9 ∧ OSF 2003 60300 0 g w 87 25 ((x5).Rates) p9 ∧ OSF 2003 60301 1 g w 3 25 ((x5).Extras) p9 ∧ e 7 = .int .i64 (u3) ∧ e 74 = .bool (d9)) (fun Q' hQ => ?_) (fun dN dO hR => ?_)
    ·replace h := hx
     clear hx
     refine E_region (EL_mv nB rfl ?_)
     refine EL_p (fPtr p1 1) (P_fieldAddr at_75_1 aD (PT.ptr mB)) rfl ?_
     have xL := PT_field (part_Prices_1).1 mB
     refine EL_do .plain rfl (D_load (g := hG) Tryz.isAgg73 Tryz.sizeOf73 rfl xL fun eO yL => ?_)
     refine EL_p (.int .i64 (((x0).Extras).length : Int)) (P_len Tryz.underlying73 rfl yL) rfl ?_
     refine EL_p (.bool ((decide (u3 < (((x0).Extras).length : Int))))) (P_int rfl rfl rfl) rfl ?_
     refine EL_p (.bool ((decide (u3 < (((x0).Extras).length : Int))))) (P_move rfl) rfl ?_
     rcases csome h with ⟨u9, h⟩ | ⟨u9, h⟩
     ·refine EL_y (.int .i64 (u3)) (P_move nB) rfl rfl u9 rfl ?_
      refine EL_y (.bool ((decide (u3 < (8 : Int))))) (P_int rfl rfl rfl) rfl rfl u9 rfl ?_
      refine EL_p (.bool ((decide (u3 < (8 : Int))))) (P_pick (b := (decide (u3 < (((x0).Extras).length : Int)))) rfl (pick_t u9 rfl)) rfl ?_
      refine EL_nil ?_
      obtain rfl := sinj h
      exact hQ _ _ ⟨hG, hfr, aD, mB, dF, eF, u2_0_339, u2_1_339, rF, sF, u3_0_339, u3_1_339, nB, rfl⟩
     ·refine EL_s rfl rfl u9 rfl rfl ?_
      refine EL_s rfl rfl u9 rfl rfl ?_
      refine EL_p (.bool false) (P_pick (b := (decide (u3 < (((x0).Extras).length : Int)))) rfl (pick_f u9 rfl)) rfl ?_
      refine EL_nil ?_
      obtain rfl := sinj h
      exact hQ _ _ ⟨hG, hfr, aD, mB, dF, eF, u2_0_339, u2_1_339, rF, sF, u3_0_339, u3_1_339, nB, rfl⟩
    ·clear hx
     obtain ⟨yI, hfr, zI, eJ, tF, uF, u2_0_355, u2_1_355, vF, xF, u3_0_355, u3_1_355, gJ, eD⟩ := hR
     rcases csome h with ⟨sD, h⟩ | ⟨sD, h⟩
     ·refine E_cond_true (Eq.trans (show ev _ _ = .bool (d9) from eD) (congrArg Value.bool sD)) ?_
      exact E_skip (thn_n (sK () _ _ ⟨yI, hfr, zI, eJ, tF, uF, u2_0_355, u2_1_355, vF, xF, u3_0_355, u3_1_355, gJ⟩ h))
     ·refine E_cond_false (Eq.trans (show ev _ _ = .bool (d9) from eD) (congrArg Value.bool sD)) ?_
      refine E_exit ?_
      refine thn_e ?_
      refine thn_e ?_
      refine blk_hit ?_
      obtain rfl := sinj h
      exact hQ _ _ ⟨yI, hfr, tF, uF, u2_0_355, u2_1_355, vF, xF, u3_0_355, u3_1_355⟩
   ·rintro _ eN gO ⟨zL, hfr, yF, x6, iJ, m8, u2_0_357, u2_1_357, bD, g8, u3_0_357, u3_1_357, aG⟩ h
    obtain ⟨a9, hx, h⟩ := bsome h
    refine E_join (fun e w => ∃ (g : Gh) , Fr gI wI g w ∧ e 1 = p1 ∧ PT g.m w (x0 : Prices) p1 ∧ e 2 = p2 ∧ OB 2002 g w 25 ((⟨[], [], 0, 0⟩ : PayList) : PayList) p2 ∧ OSF 2002 60200 0 g w 87 25 (((⟨[], [], 0, 0⟩ : PayList)).Rates) p2 ∧ OSF 2002 60201 1 g w 3 25 (((⟨[], [], 0, 0⟩ : PayList)).Extras) p2 ∧ e 3 = p9 ∧ OB 2003 g w 25 (a9 : PayList) p9 ∧ OSF 2003 60300 0 g w 87 25 ((a9).Rates) p9 ∧ OSF 2003 60301 1 g w 3 25 ((a9).Extras) p9 ∧ e 7 = .int .i64 (u3)) (fun Q' hQ => ?_) (fun gN iO hR => ?_)
    ·replace h := hx
     clear hx
     refine E_block ?_
     refine L_loadFS (x := .tmp 77) part_PayList_1.1 Tryz.isAgg23 Tryz.sizeOf23 g8 u3_1_357 fun aM iG o386 tK => ?_
     have bM := PT_field (part_Prices_1).1 x6
     refine L_load (x := .tmp 79) Tryz.isAgg73 Tryz.sizeOf73 bM fun jJ kJ uK => ?_
     obtain ⟨i6, sG, h⟩ := bsome h
     have cM := PT_idx kJ sG
     refine L_load (x := .tmp 82) Tryz.isAgg5 Tryz.sizeOf5 cM fun jO dM vK => ?_
     obtain rfl := RV_u8.1 dM
     refine E_drawL (g := zL) (n := 10) [(9, (fun v g w => RV g.m w ([(w64 ((3 : Int) * ((i6).toNat : Int)))] : List Int) v ∧ OS 3086 g w 3 ([(w64 ((3 : Int) * ((i6).toNat : Int)))] : List Int) v ∧ FullV v))] [0, 1, 2, 3, 4, 5, 6, 7, 8, 9] rfl mixed (by kernel_rfl) (⟨fun _ => up_and up_rv (up_and up_os (up_eq _)), trivial⟩) ?_
     refine L_p (fPtr p9 1) rfl rfl (P_fieldAddr at_25_1 bD (OB.ptr g8)) ?_
     refine L_ld (c := aM) rfl rfl .plain (fun _ _ h => ⟨h.ch, fun b hb _ => h.below.block b hb⟩) tK rfl ?_
     refine L_p (fPtr p1 1) rfl rfl (P_fieldAddr at_75_1 yF (PT.ptr x6)) ?_
     refine L_ld (c := jJ) rfl rfl .plain (fun _ _ h => h.ch) uK rfl ?_
     refine L_p (.int .i64 (u3)) rfl rfl (P_move aG) ?_
     refine L_p (ePtr jJ u3 1) rfl rfl (P_indexAddr (α := UInt8) Tryz.underlying73 Tryz.sizeOf5 rfl kJ rfl sG) ?_
     refine L_ld (c := .int .u8 (UInt8.toNat (i6))) rfl rfl .plain (fun _ _ h => h.ch) vK rfl ?_
     refine L_p (.int .i64 (((i6).toNat : Int))) rfl rfl (P_u8int Tryz.underlying5 Tryz.underlying3 rfl) ?_
     refine L_p (.int .i64 ((w64 ((3 : Int) * ((i6).toNat : Int))))) rfl rfl (P_int rfl rfl rfl) ?_
     refine L_do (φ := fun v g w => RV g.m w ([(w64 ((3 : Int) * ((i6).toNat : Int)))] : List Int) v ∧ OS 3086 g w 3 ([(w64 ((3 : Int) * ((i6).toNat : Int)))] : List Int) v ∧ FullV v) rfl rfl .plain (fun g w hd => D_buildSlice (g := g) 3086 (xs := ([(w64 ((3 : Int) * ((i6).toNat : Int)))] : List Int)) (vs := [.int .i64 ((w64 ((3 : Int) * ((i6).toNat : Int))))]) Tryz.underlying23 Tryz.sizeOf3 Tryz.zeroValue3 rfl rfl (.cons rfl .nil) (RVs.cons (RV_int.2 rfl) RVs.nil) rfl rfl fun g' w' v hs o r hxt hfl => ⟨g', hxt, r, o, hfl⟩) (fun oB hv => ?_)
     clear hv
     refine L_nil fun eM kO hall => ?_
     have hs := hall.1
     have hfr := hfr.ext hs
     have x6 := x6.ext hs
     have u2_0_357 := u2_0_357.ext hs
     have u2_1_357 := u2_1_357.ext hs
     have m8 := m8.ext hs
     have u3_0_357 := u3_0_357.ext hs
     have g8 := g8.ext hs
     have iG := iG.ext hs
     have o386 := o386.ext hs
     have iM := (word_all (A := fun g w => RV g.m w ([(w64 ((3 : Int) * ((i6).toNat : Int)))] : List Int) oB ∧ OS 3086 g w 3 ([(w64 ((3 : Int) * ((i6).toNat : Int)))] : List Int) oB ∧ FullV oB) 9 rfl hall).1
     have o407 := (word_all (A := fun g w => RV g.m w ([(w64 ((3 : Int) * ((i6).toNat : Int)))] : List Int) oB ∧ OS 3086 g w 3 ([(w64 ((3 : Int) * ((i6).toNat : Int)))] : List Int) oB ∧ FullV oB) 9 rfl hall).2.1
     clear hs hall
     obtain ⟨cG, xK, h⟩ := bsome h
     refine EL_do .plain rfl (D_append (g := eM) (i := 60301) Tryz.underlying23 info_3 rfl rfl o386 iG rfl iM xK fun jM lO mO hs o408 lJ _ => ?_)
     have hfr := hfr.stp hs
     have x6 := x6.stp hs
     have u2_0_357 := u2_0_357.stp hs rfl
     have u2_1_357 := u2_1_357.stp hs rfl
     have m8 := m8.stp hs rfl
     have u3_0_357 := u3_0_357.stp hs rfl
     have g8 := g8.stp hs rfl
     refine EL_p (fPtr p9 1) (P_fieldAddr at_25_1 bD (OB.ptr g8)) rfl ?_
     refine EL_do .plain rfl (D_storeFc (g := jM) part_PayList_1 Tryz.sizeOf23 rfl g8 rfl lJ fun kM nO hs b411 rst hos => ?_)
     have u3_0_357 := u3_0_357.rest hs rst
     have mJ := hos _ _ 60301 3 (cG : List Int) (rv_cells1 lJ) rfl o408
     clear rst hos
     have hfr := hfr.stp hs
     have x6 := x6.stp hs
     have u2_0_357 := u2_0_357.stp hs rfl
     have u2_1_357 := u2_1_357.stp hs rfl
     have m8 := m8.stp hs rfl
     refine EL_nil (blk_n ?_)
     obtain rfl := sinj h
     exact hQ _ _ ⟨kM, hfr, yF, x6, iJ, m8, u2_0_357, u2_1_357, bD, b411, u3_0_357, mJ, aG⟩
    ·clear hx
     obtain ⟨mM, hfr, nJ, oJ, pJ, qJ, u2_0_412, u2_1_412, rJ, sJ, u3_0_412, u3_1_412, vJ⟩ := hR
     refine E_region (EL_mv vJ rfl ?_)
     refine EL_in (.int .i64 ((w64 (u3 + (1 : Int))))) rfl rfl rfl rfl ?_
     refine EL_at (.int .i64 ((w64 (u3 + (1 : Int))))) rfl rfl ?_
     exact EL_nil (thn_n (qK (a9, (w64 (u3 + (1 : Int)))) _ _ ⟨mM, hfr, nJ, oJ, pJ, qJ, u2_0_412, u2_1_412, rJ, sJ, u3_0_412, u3_1_412, rfl⟩ h))
  ·clear hx
   obtain ⟨xJ, hfr, bG, yJ, u2_0_413, u2_1_413, zJ, aK, u3_0_413, u3_1_413⟩ := hR
   refine E_seq (E_region (EL_do .plain rfl (D_loadO (g := xJ) Tryz.isAgg25 Tryz.sizeOf25 zJ aK fun nM oM => ?_)))
   refine EL_do .plain rfl (D_storeOc (g := xJ) (v := nM) Tryz.sizeOf25 bG yJ rfl oM fun oO pO hs b415 cb => ?_)
   clear cb
   have hfr := hfr.stp hs
   refine EL_nil (thn_n (E_ret ?_))
   obtain rfl := sinj h
   obtain ⟨ad416, cv416, hp416, yK, cr416⟩ := ob_read Tryz.isAgg25 Tryz.sizeOf25 b415
   exact endm_c rfl rfl ((show _ = p2 from bG).trans hp416) yK ⟨_, hfr, cr416⟩
def f39 (x0 : Cut) (x1 : PayList) : Option (PayPiece) :=
 (rem64 (((x0).Weaver).toNat : Int) (51 : Int)).bind fun y6 =>
 (rem64 (((x0).Dense).toNat : Int) (1001 : Int)).bind fun y9 =>
 (rem64 (((x0).Picks).toNat : Int) (1000001 : Int)).bind fun l8 =>
 (rem64 (((x0).Faults).toNat : Int) (101 : Int)).bind fun m8 =>
 Option.bind (α := PayPiece) (
  lp (σ := PayPiece × Int) (fun tD (x6, o0) =>
   jn (σ := Unit) (fun _ =>
    Option.bind (α := PayPiece) (
     (u8shr (x0).Extras ((wu64 o0))).bind fun k9 =>
     bif ((k9 &&& (1 : UInt8)) == (1 : UInt8)) then
      (apnd 8 ((x6).Extras) (([o0] : List Int))).bind fun tB =>
      some ({ x6 with Extras := tB })
     else
      some (x6)
     ) fun i7 =>
    tD (i7, (w64 (o0 + (1 : Int))))
    ) fun k57 =>
   bif (decide (o0 < (((x1).Extras).length : Int))) then
    k57 ()
   else
    some (x6)
   ) big ((⟨y6, y9, l8, [], m8⟩ : PayPiece), (0 : Int))
  ) fun m7 =>
 some (m7)
theorem en39 : Enters Tryz.prog 39 := enters_of Tryz.func39 (by kernel_rfl) rfl
theorem wk39 {gI : Gh} {wI : World} {x0 : Cut} {x1 : PayList} {up0 : Value} (rp0 : RV gI.m wI x0 up0) {up1 : Value} (rp1 : RV gI.m wI x1 up1) {r : PayPiece} (h : f39 x0 x1 = some r) : Fn Tryz.prog 39 #[up0, up1] gI wI (fun m w v => RV m w (r) v) := by
 unfold f39 at h
 refine fn_of_E Tryz.func39 rfl (Nat.le_of_ble_eq_true rfl) fun g0 hm hfr => ?_
 have rp0 : RV g0.m wI x0 up0 := hm ▸ rp0
 have rp1 : RV g0.m wI x1 up1 := hm ▸ rp1
 show E _ 45 none _ _ _ _ _
 refine E_seq (E_region (EL_do .plain rfl (D_box (g := g0) rfl rp0 fun g1 w1 p1 hs q1 => ?_)))
 have hfr := hfr.ext hs
 have rp1 := rp1.ext hs
 refine EL_do .plain rfl (D_box (g := g1) rfl rp1 fun g2 w2 p2 hs q2 => ?_)
 have hfr := hfr.ext hs
 have q1 := q1.ext hs
 refine EL_do .plain rfl (D_allocOc (g := g2) 2004 (⟨0, 0, 0, [], 0⟩ : PayPiece) Tryz.zeroValue27 (fun m w => ⟨_, (rep_two rep_int (rep_two rep_int (rep_two rep_int (rep_two rep_nil rep_int)))), rfl⟩) fun g3 w3 p3 hs b3 cb => ?_)
 have hfr := hfr.stp hs
 have q1 := q1.stp hs
 have q2 := q2.stp hs
 have n8 : OSF 2004 60403 3 g3 w3 3 27 ([] : List Int) p3 := cb.osf (by rfl)
 clear cb
 refine EL_nil (thn_n (E_seq (E_region (EL_p (fPtr p1 0) (P_fieldAddr at_83_0 rfl (PT.ptr q1)) rfl ?_))))
 have q4 := PT_field (part_Cut_0).1 q1
 refine EL_do .plain rfl (D_load (g := g3) Tryz.isAgg5 Tryz.sizeOf5 rfl q4 fun v5 r5 => ?_)
 obtain rfl := RV_u8.1 r5
 refine EL_p (.int .i64 ((((x0).Weaver).toNat : Int))) (P_u8int Tryz.underlying5 Tryz.underlying3 rfl) rfl ?_
 obtain ⟨y6, vE, h⟩ := bsome h
 refine EL_p (.int .i64 (y6)) (P_int rfl rfl (congrArg (Option.map (Value.int .i64)) vE)) rfl ?_
 refine EL_p (fPtr p1 3) (P_fieldAddr at_83_3 rfl (PT.ptr q1)) rfl ?_
 have q7 := PT_field (part_Cut_3).1 q1
 refine EL_do .plain rfl (D_load (g := g3) Tryz.isAgg81 Tryz.sizeOf81 rfl q7 fun v8 r8 => ?_)
 obtain rfl := RV_u16.1 r8
 refine EL_p (.int .i64 ((((x0).Dense).toNat : Int))) (P_u16int Tryz.underlying81 Tryz.underlying3 rfl) rfl ?_
 obtain ⟨y9, xE, h⟩ := bsome h
 refine EL_p (.int .i64 (y9)) (P_int rfl rfl (congrArg (Option.map (Value.int .i64)) xE)) rfl ?_
 refine EL_p (fPtr p1 4) (P_fieldAddr at_83_4 rfl (PT.ptr q1)) rfl ?_
 have yE := PT_field (part_Cut_4).1 q1
 refine EL_do .plain rfl (D_load (g := g3) Tryz.isAgg77 Tryz.sizeOf77 rfl yE fun mG zE => ?_)
 obtain rfl := RV_u32.1 zE
 refine EL_p (.int .i64 ((((x0).Picks).toNat : Int))) (P_u32int Tryz.underlying77 Tryz.underlying3 rfl) rfl ?_
 obtain ⟨l8, bE, h⟩ := bsome h
 refine EL_p (.int .i64 (l8)) (P_int rfl rfl (congrArg (Option.map (Value.int .i64)) bE)) rfl ?_
 refine EL_p (fPtr p1 1) (P_fieldAddr at_83_1 rfl (PT.ptr q1)) rfl ?_
 have cF := PT_field (part_Cut_1).1 q1
 refine EL_do .plain rfl (D_load (g := g3) Tryz.isAgg5 Tryz.sizeOf5 rfl cF fun sG dF => ?_)
 obtain rfl := RV_u8.1 dF
 refine EL_p (.int .i64 ((((x0).Faults).toNat : Int))) (P_u8int Tryz.underlying5 Tryz.underlying3 rfl) rfl ?_
 obtain ⟨m8, iE, h⟩ := bsome h
 refine EL_p (.int .i64 (m8)) (P_int rfl rfl (congrArg (Option.map (Value.int .i64)) iE)) rfl ?_
 have u9 : RV g3.m w3 (⟨y6, y9, l8, [], m8⟩ : PayPiece) (.agg (setCh [[.int .i64 0], [.int .i64 0], [.int .i64 0], [.slice none 0 0], [.int .i64 0]] [(0, .int .i64 (y6)), (1, .int .i64 (y9)), (2, .int .i64 (l8)), (4, .int .i64 (m8))]).flatten.toArray) := RV_build rfl (rep_pair (rfl) (rep_pair (rfl) (rep_pair (rfl) (rep_pair (rep_nil) (rep_last (rfl))))))
 generalize vB : (Value.agg (setCh [[.int .i64 0], [.int .i64 0], [.int .i64 0], [.slice none 0 0], [.int .i64 0]] [(0, .int .i64 (y6)), (1, .int .i64 (y9)), (2, .int .i64 (l8)), (4, .int .i64 (m8))]).flatten.toArray) = uD at u9
 refine EL_p uD (vB ▸ P_build (vs := [(0, .int .i64 (y6)), (1, .int .i64 (y9)), (2, .int .i64 (l8)), (4, .int .i64 (m8))]) [[.int .i64 0], [.int .i64 0], [.int .i64 0], [.slice none 0 0], [.int .i64 0]] lay_27 rfl rfl (.cons rfl (.cons rfl (.cons rfl (.cons rfl .nil)))) ⟨⟨_, rfl, rfl⟩, ⟨⟨_, rfl, rfl⟩, ⟨⟨_, rfl, rfl⟩, ⟨⟨_, rfl, rfl⟩, trivial⟩⟩⟩⟩) rfl ?_
 refine EL_do .plain rfl (D_allocOc (g := g3) 2005 (⟨0, 0, 0, [], 0⟩ : PayPiece) Tryz.zeroValue27 (fun m w => ⟨_, (rep_two rep_int (rep_two rep_int (rep_two rep_int (rep_two rep_nil rep_int)))), rfl⟩) fun xD eF l5 hs b17 cb => ?_)
 have hfr := hfr.stp hs
 have q1 := q1.stp hs
 have q2 := q2.stp hs
 have n8 := n8.stp hs rfl
 have b3 := b3.stp hs rfl
 have u9 := u9.stp hs
 have hG : OSF 2005 60503 3 xD eF 3 27 ([] : List Int) l5 := cb.osf (by rfl)
 clear cb
 refine EL_do .plain rfl (D_storeOc (g := xD) (v := uD) Tryz.sizeOf27 rfl b17 rfl u9 fun yD rF hs b18 cb => ?_)
 have cC : OSF 2005 60503 3 yD rF 3 27 ([] : List Int) l5 := cb.osf (by rw [← vB]; rfl)
 clear cb
 have hfr := hfr.stp hs
 have q1 := q1.stp hs
 have q2 := q2.stp hs
 have n8 := n8.stp hs rfl
 have b3 := b3.stp hs rfl
 refine EL_nil (thn_n ?_)
 obtain ⟨m7, hx, h⟩ := bsome h
 refine E_join (fun e w => ∃ (g : Gh) , Fr gI wI g w ∧ e 4 = p3 ∧ OB 2004 g w 27 ((⟨0, 0, 0, [], 0⟩ : PayPiece) : PayPiece) p3 ∧ OSF 2004 60403 3 g w 3 27 (((⟨0, 0, 0, [], 0⟩ : PayPiece)).Extras) p3 ∧ e 5 = l5 ∧ OB 2005 g w 27 (m7 : PayPiece) l5 ∧ OSF 2005 60503 3 g w 3 27 ((m7).Extras) l5) (fun Q' hQ => ?_) (fun iG xG hR => ?_)
 ·replace h := hx
  clear hx
  refine E_seq (E_region (EL_at (.int .i64 (0)) rfl rfl ?_))
  refine EL_nil (thn_n (E_block ?_))
  refine E_lp h (fun (s : PayPiece × Int) e w => ∃ (g : Gh) , Fr gI wI g w ∧ e 2 = p1 ∧ PT g.m w (x0 : Cut) p1 ∧ e 3 = p2 ∧ PT g.m w (x1 : PayList) p2 ∧ e 4 = p3 ∧ OB 2004 g w 27 ((⟨0, 0, 0, [], 0⟩ : PayPiece) : PayPiece) p3 ∧ OSF 2004 60403 3 g w 3 27 (((⟨0, 0, 0, [], 0⟩ : PayPiece)).Extras) p3 ∧ e 5 = l5 ∧ OB 2005 g w 27 (s.1 : PayPiece) l5 ∧ OSF 2005 60503 3 g w 3 27 ((s.1).Extras) l5 ∧ e 6 = .int .i64 (s.2)) ⟨yD, hfr, rfl, q1, rfl, q2, rfl, b3, n8, rfl, b18, cC, rfl⟩ (fun X52 tD lE => ?_)
  rintro ⟨x6, o0⟩ jG yG ⟨yB, hfr, mC, qC, bA, a9, iA, yA, u4_3_53, aB, dB, u5_3_53, iB⟩ h
  refine E_joinC h (fun (s : Unit) e w => ∃ (g : Gh) , Fr gI wI g w ∧ e 2 = p1 ∧ PT g.m w (x0 : Cut) p1 ∧ e 3 = p2 ∧ PT g.m w (x1 : PayList) p2 ∧ e 4 = p3 ∧ OB 2004 g w 27 ((⟨0, 0, 0, [], 0⟩ : PayPiece) : PayPiece) p3 ∧ OSF 2004 60403 3 g w 3 27 (((⟨0, 0, 0, [], 0⟩ : PayPiece)).Extras) p3 ∧ e 5 = l5 ∧ OB 2005 g w 27 (x6 : PayPiece) l5 ∧ OSF 2005 60503 3 g w 3 27 ((x6).Extras) l5 ∧ e 6 = .int .i64 (o0)) (fun X57 k57 mE h => ?_) ?_
  ·refine E_seq (E_region (EL_mv iB rfl ?_))
   refine EL_p (fPtr p2 1) (P_fieldAddr at_25_1 bA (PT.ptr a9)) rfl ?_
   have sF := PT_field (part_PayList_1).1 a9
   refine EL_do .plain rfl (D_load (g := yB) Tryz.isAgg23 Tryz.sizeOf23 rfl sF fun zG tF => ?_)
   refine EL_p (.int .i64 (((x1).Extras).length : Int)) (P_len Tryz.underlying23 rfl tF) rfl ?_
   refine EL_p (.bool ((decide (o0 < (((x1).Extras).length : Int))))) (P_int rfl rfl rfl) rfl ?_
   refine EL_nil (thn_n ?_)
   rcases csome h with ⟨l9, h⟩ | ⟨l9, h⟩
   ·refine E_ct l9 rfl ?_
    exact E_skip (thn_n (mE () _ _ ⟨yB, hfr, mC, qC, bA, a9, iA, yA, u4_3_53, aB, dB, u5_3_53, iB⟩ h))
   ·refine E_cf l9 rfl ?_
    refine E_exit ?_
    refine thn_e ?_
    refine thn_e ?_
    refine blk_hit ?_
    obtain rfl := sinj h
    exact hQ _ _ ⟨yB, hfr, iA, yA, u4_3_53, aB, dB, u5_3_53⟩
  ·rintro _ kG aH ⟨lB, hfr, d9, u3, mB, x5, nB, i6, u4_3_61, g8, t5, u5_3_61, k8⟩ h
   obtain ⟨i7, hx, h⟩ := bsome h
   refine E_join (fun e w => ∃ (g : Gh) , Fr gI wI g w ∧ e 2 = p1 ∧ PT g.m w (x0 : Cut) p1 ∧ e 3 = p2 ∧ PT g.m w (x1 : PayList) p2 ∧ e 4 = p3 ∧ OB 2004 g w 27 ((⟨0, 0, 0, [], 0⟩ : PayPiece) : PayPiece) p3 ∧ OSF 2004 60403 3 g w 3 27 (((⟨0, 0, 0, [], 0⟩ : PayPiece)).Extras) p3 ∧ e 5 = l5 ∧ OB 2005 g w 27 (i7 : PayPiece) l5 ∧ OSF 2005 60503 3 g w 3 27 ((i7).Extras) l5 ∧ e 6 = .int .i64 (o0)) (fun Q' hQ => ?_) (fun lG cH hR => ?_)
   ·replace h := hx
    clear hx
    refine E_block ?_
    refine E_seq (E_region (EL_p (fPtr p1 2) (P_fieldAddr at_83_2 d9 (PT.ptr u3)) rfl ?_))
    have uF := PT_field (part_Cut_2).1 u3
    refine EL_do .plain rfl (D_load (g := lB) Tryz.isAgg5 Tryz.sizeOf5 rfl uF fun dH vF => ?_)
    obtain rfl := RV_u8.1 vF
    refine EL_mv k8 rfl ?_
    refine EL_p (.int .u64 (wu64 o0)) (P_intu64 Tryz.underlying3 Tryz.underlying85 rfl) rfl ?_
    obtain ⟨k9, oE, h⟩ := bsome h
    refine EL_p (.int .u8 (UInt8.toNat (k9))) (P_shr8 rfl rfl oE) rfl ?_
    refine EL_p (.int .u8 (UInt8.toNat ((k9 &&& (1 : UInt8))))) (P_and8 rfl rfl) rfl ?_
    refine EL_p (.bool (((k9 &&& (1 : UInt8)) == (1 : UInt8)))) (P_u8 rfl rfl rfl) rfl ?_
    refine EL_nil (thn_n ?_)
    rcases csome h with ⟨n9, h⟩ | ⟨n9, h⟩
    ·refine E_ct n9 rfl ?_
     refine E_region (EL_p (fPtr l5 3) (P_fieldAddr at_27_3 g8 (OB.ptr t5)) rfl ?_)
     refine EL_do .plain rfl (D_loadFS (g := lB) part_PayPiece_3.1 Tryz.isAgg23 Tryz.sizeOf23 rfl t5 u5_3_61 fun gH zB o79 => ?_)
     refine EL_mv k8 rfl ?_
     refine EL_do .plain rfl (D_buildSlice (g := lB) 3041 (xs := ([o0] : List Int)) (vs := [.int .i64 (o0)]) Tryz.underlying23 Tryz.sizeOf3 Tryz.zeroValue3 rfl rfl (.cons rfl .nil) (RVs.cons (RV_int.2 rfl) RVs.nil) rfl rfl fun xF iH jH hs o80 yF hxt hfl => ?_)
     have hfr := hfr.stp hs
     have u3 := u3.stp hs
     have x5 := x5.stp hs
     have u4_3_61 := u4_3_61.stp hs rfl
     have i6 := i6.stp hs rfl
     have t5 := t5.stp hs rfl
     have zB := zB.stp hs
     have o79 := o79.stp hs rfl
     obtain ⟨tB, rE, h⟩ := bsome h
     refine EL_do .plain rfl (D_append (g := xF) (i := 60503) Tryz.underlying23 info_3 rfl rfl o79 zB rfl yF rE fun aG kH lH hs o81 zD _ => ?_)
     have hfr := hfr.stp hs
     have u3 := u3.stp hs
     have x5 := x5.stp hs
     have u4_3_61 := u4_3_61.stp hs rfl
     have i6 := i6.stp hs rfl
     have t5 := t5.stp hs rfl
     refine EL_p (fPtr l5 3) (P_fieldAddr at_27_3 g8 (OB.ptr t5)) rfl ?_
     refine EL_do .plain rfl (D_storeFc (g := aG) part_PayPiece_3 Tryz.sizeOf23 rfl t5 rfl zD fun bG mH hs b84 rst hos => ?_)
     have rC := hos _ _ 60503 3 (tB : List Int) (rv_cells1 zD) rfl o81
     clear rst hos
     have hfr := hfr.stp hs
     have u3 := u3.stp hs
     have x5 := x5.stp hs
     have u4_3_61 := u4_3_61.stp hs rfl
     have i6 := i6.stp hs rfl
     refine EL_nil (blk_n ?_)
     obtain rfl := sinj h
     exact hQ _ _ ⟨bG, hfr, d9, u3, mB, x5, nB, i6, u4_3_61, g8, b84, rC, k8⟩
    ·refine E_cf n9 rfl ?_
     refine E_skip (blk_n ?_)
     obtain rfl := sinj h
     exact hQ _ _ ⟨lB, hfr, d9, u3, mB, x5, nB, i6, u4_3_61, g8, t5, u5_3_61, k8⟩
   ·clear hx
    obtain ⟨cG, hfr, uC, vC, aD, bD, cD, eD, u4_3_85, iD, jD, u5_3_85, lD⟩ := hR
    refine E_region (EL_mv lD rfl ?_)
    refine EL_in (.int .i64 ((w64 (o0 + (1 : Int))))) rfl rfl rfl rfl ?_
    refine EL_at (.int .i64 ((w64 (o0 + (1 : Int))))) rfl rfl ?_
    exact EL_nil (thn_n (lE (i7, (w64 (o0 + (1 : Int)))) _ _ ⟨cG, hfr, uC, vC, aD, bD, cD, eD, u4_3_85, iD, jD, u5_3_85, rfl⟩ h))
 ·clear hx
  obtain ⟨aE, hfr, oB, nD, u4_3_86, oD, sD, u5_3_86⟩ := hR
  refine E_seq (E_region (EL_do .plain rfl (D_loadO (g := aE) Tryz.isAgg27 Tryz.sizeOf27 oD sD fun eG gG => ?_)))
  refine EL_do .plain rfl (D_storeOc (g := aE) (v := eG) Tryz.sizeOf27 oB nD rfl gG fun nH oH hs b88 cb => ?_)
  clear cb
  have hfr := hfr.stp hs
  refine EL_nil (thn_n (E_ret ?_))
  obtain rfl := sinj h
  obtain ⟨ad89, cv89, hp89, uE, cr89⟩ := ob_read Tryz.isAgg27 Tryz.sizeOf27 b88
  exact endm_c rfl rfl ((show _ = p3 from oB).trans hp89) uE ⟨_, hfr, cr89⟩
def f57 (x0 : PayPayList) (x1 : Int) (x2 : Int) : Option (Int) :=
 (quo64 (w64 (x1 * ((x0).PayList).Cap)) (1000 : Int)).bind fun y8 =>
 some ((min64 (w64 (x2 * ((x0).PayList).Fine)) y8))
theorem en57 : Enters Tryz.prog 57 := enters_of Tryz.func57 (by kernel_rfl) rfl
theorem wk57 {gI : Gh} {wI : World} {x0 : PayPayList} {x1 : Int} {x2 : Int} {up0 : Value} (rp0 : RV gI.m wI x0 up0) {r : Int} (h : f57 x0 x1 x2 = some r) : Fn Tryz.prog 57 #[up0, .int .i64 (x1), .int .i64 (x2)] gI wI (fun _ _ v => v = .int .i64 (r)) := by
 unfold f57 at h
 refine fn_of_E Tryz.func57 rfl (Nat.le_of_ble_eq_true rfl) fun g0 hm hfr => ?_
 have rp0 : RV g0.m wI x0 up0 := hm ▸ rp0
 show E _ 19 none _ _ _ _ _
 refine E_seq (E_region (EL_do .plain rfl (D_box (g := g0) rfl rp0 fun g1 w1 p1 hs q1 => ?_)))
 have hfr := hfr.ext hs
 refine EL_at (.int .i64 (0)) rfl rfl ?_
 refine EL_nil (thn_n (E_seq (E_region (EL_mw (.int .i64 (x2)) rfl rfl ?_))))
 refine EL_p (fPtr p1 0) (P_fieldAddr at_117_0 rfl (PT.ptr q1)) rfl ?_
 have q2 := PT_field (part_PayPayList_0).1 q1
 refine EL_p (fPtr (fPtr p1 0) 2) (P_fieldAddr at_25_2 rfl (PT.ptr q2)) rfl ?_
 have q3 := PT_field (part_PayList_2).1 q2
 refine EL_do .plain rfl (D_load (g := g1) Tryz.isAgg3 Tryz.sizeOf3 rfl q3 fun v4 r4 => ?_)
 obtain rfl := RV_int.1 r4
 refine EL_in (.int .i64 ((w64 (x2 * ((x0).PayList).Fine)))) rfl rfl rfl rfl ?_
 refine EL_mw (.int .i64 (x1)) rfl rfl ?_
 refine EL_p (fPtr p1 0) (P_fieldAddr at_117_0 rfl (PT.ptr q1)) rfl ?_
 have q5 := PT_field (part_PayPayList_0).1 q1
 refine EL_p (fPtr (fPtr p1 0) 3) (P_fieldAddr at_25_3 rfl (PT.ptr q5)) rfl ?_
 have q6 := PT_field (part_PayList_3).1 q5
 refine EL_do .plain rfl (D_load (g := g1) Tryz.isAgg3 Tryz.sizeOf3 rfl q6 fun v7 r7 => ?_)
 obtain rfl := RV_int.1 r7
 refine EL_in (.int .i64 ((w64 (x1 * ((x0).PayList).Cap)))) rfl rfl rfl rfl ?_
 obtain ⟨y8, o0, h⟩ := bsome h
 refine EL_p (.int .i64 (y8)) (P_int rfl rfl (congrArg (Option.map (Value.int .i64)) o0)) rfl ?_
 refine EL_p (.int .i64 (min64 (w64 (x2 * ((x0).PayList).Fine)) y8)) (P_min rfl rfl) rfl ?_
 refine EL_at (.int .i64 (min64 (w64 (x2 * ((x0).PayList).Fine)) y8)) rfl rfl ?_
 refine EL_nil (thn_n (E_ret ?_))
 obtain rfl := sinj h
 exact end1 rfl rfl (show _ = .int .i64 (min64 (w64 (x2 * ((x0).PayList).Fine)) y8) from rfl) ⟨_, hfr, rfl⟩
def f78 (x0 : Int) (z0 : Int) (z1 : Int) : Option (Bool) :=
 Option.bind (α := Bool) (
  bif (decide (x0 < z0)) then
   some (true)
  else
   some ((decide (x0 > z1)))
  ) fun o0 =>
 some (o0)
theorem en78 : Enters Tryz.prog 78 := enters_of Tryz.func78 (by kernel_rfl) rfl
theorem wk78 {gI : Gh} {wI : World} {x0 : Int} {z0 : Int} {z1 : Int} {pf0 : Value} (qf0 : PT gI.m wI z0 pf0) {pf1 : Value} (qf1 : PT gI.m wI z1 pf1) {r : Bool} (h : f78 x0 z0 z1 = some r) : Fn Tryz.prog 78 #[.int .i64 (x0), pf0, pf1] gI wI (fun _ _ v => v = .bool (r)) := by
 unfold f78 at h
 refine fn_of_E Tryz.func78 rfl (Nat.le_of_ble_eq_true rfl) fun g0 hm hfr => ?_
 have qf0 : PT g0.m wI z0 pf0 := hm ▸ qf0
 have qf1 : PT g0.m wI z1 pf1 := hm ▸ qf1
 show E _ 13 none _ _ _ _ _
 refine E_seq (E_region (EL_at (.bool false) rfl rfl ?_))
 refine EL_nil (thn_n ?_)
 obtain ⟨o0, hx, h⟩ := bsome h
 refine E_join (fun e w => ∃ (g : Gh) , Fr gI wI g w ∧ e 4 = .bool (o0)) (fun Q' hQ => ?_) (fun l5 w7 hR => ?_)
 ·replace h := hx
  clear hx
  refine E_region (EL_mw (.int .i64 (x0)) rfl rfl ?_)
  refine EL_do .plain rfl (D_load (g := g0) Tryz.isAgg3 Tryz.sizeOf3 rfl qf0 fun v4 r4 => ?_)
  obtain rfl := RV_int.1 r4
  refine EL_in (.bool ((decide (x0 < z0)))) rfl rfl rfl rfl ?_
  refine EL_mw (.bool ((decide (x0 < z0)))) rfl rfl ?_
  rcases csome h with ⟨hc5, h⟩ | ⟨hc5, h⟩
  ·refine EL_s rfl rfl hc5 rfl rfl ?_
   refine EL_s rfl rfl hc5 rfl rfl ?_
   refine EL_s rfl rfl hc5 rfl rfl ?_
   refine EL_p (.bool true) (P_pick (b := (decide (x0 < z0))) rfl (pick_t hc5 rfl)) rfl ?_
   refine EL_at (.bool true) rfl rfl ?_
   refine EL_nil ?_
   obtain rfl := sinj h
   exact hQ _ _ ⟨g0, hfr, rfl⟩
  ·refine EL_y (.int .i64 (x0)) (P_move rfl) rfl rfl hc5 rfl ?_
   refine EL_do (.yes2 rfl rfl hc5) rfl (D_load (g := g0) Tryz.isAgg3 Tryz.sizeOf3 rfl qf1 fun v6 r6 => ?_)
   obtain rfl := RV_int.1 r6
   refine EL_y (.bool ((decide (x0 > z1)))) (P_int rfl rfl rfl) rfl rfl hc5 rfl ?_
   refine EL_p (.bool ((decide (x0 > z1)))) (P_pick (b := (decide (x0 < z0))) rfl (pick_f hc5 rfl)) rfl ?_
   refine EL_at (.bool ((decide (x0 > z1)))) rfl rfl ?_
   refine EL_nil ?_
   obtain rfl := sinj h
   exact hQ _ _ ⟨g0, hfr, rfl⟩
 ·clear hx
  obtain ⟨g7, hfr, u3⟩ := hR
  refine E_ret ?_
  obtain rfl := sinj h
  exact end1 rfl rfl (show _ = .bool (o0) from u3) ⟨_, hfr, rfl⟩
theorem v111_0 {iO : Nat} {gI : Gh} {wI : World} {x0 : List Int} {up0 : Value} (rp0 : RV gI.m wI x0 up0) {r : List Int} (h : f111 x0 = some r) : FnG Tryz.prog 111 #[up0] gI wI (fun g w v => OM iO g w 3 r v) := by
 unfold f111 at h
 refine fnG_of_E Tryz.func111 rfl (Nat.le_of_ble_eq_true rfl) fun g0 hm hfr => ?_
 have rp0 : RV g0.m wI x0 up0 := hm ▸ rp0
 show E _ 8 none _ _ _ _ _
 refine E_seq (E_region (EL_at (.slice none 0 0) rfl rfl (EL_nil (thn_n ?_))))
 refine E_seq (E_seq (E_region (EL_mw up0 rfl rfl ?_)))
 obtain ⟨a, c, hv, hc, hrow⟩ := RV_list rp0
 refine EL_p (.bool a.isNone) (P_slnil Tryz.underlying23 (show ev _ _ = _ from hv)) rfl (EL_nil (thn_n ?_))
 cases a with
 | none =>
  have hx : x0 = [] := by
   cases x0 with
   | nil => rfl
   | cons y ys => obtain ⟨b, off, hb, _⟩ := hrow (by simp); cases hb
  subst hx
  have hr : r = [] := by unfold apnd at h; split at h <;> simp at h; exact h
  subst hr
  refine E_cond_true rfl (E_seq (E_region ?_))
  refine EL_at (.slice none 0 0) rfl rfl (EL_nil (thn_n ?_))
  obtain ⟨gh, hxh, homh⟩ := OM.handn (i := iO) (t := 3) (α := Int) hfr; exact E_ret (thn_r (end1 rfl rfl (show _ = .slice none 0 0 from rfl) ⟨gh, hxh, homh⟩))
 | some a =>
  refine E_cond_false rfl (E_skip (thn_n ?_))
  refine E_seq (E_region (EL_do .plain rfl (D_buildSlice (g := g0) 1 (xs := ([] : List Int)) (vs := []) Tryz.underlying23 Tryz.sizeOf3 Tryz.zeroValue3 rfl rfl .nil RVs.nil rfl rfl fun g1 w1 v1 hs o1 r1 hxt hfl => ?_)))
  have hfr := hfr.stp hs
  have rp0 := rp0.stp hs
  refine EL_mw up0 rfl rfl ?_
  refine EL_do .plain rfl (D_append (g := g1) (i := 1) Tryz.underlying23 info_3 rfl rfl o1 r1 rfl rp0 h fun g2 w2 v2 hs o2 r2 _ => ?_)
  have hfr := hfr.stp hs
  refine EL_at v2 rfl rfl (EL_nil (thn_n ?_))
  obtain ⟨gh, hxh, homh⟩ := OM.hand (i := iO) plain_int hfr o2 r2; exact E_ret (end1 rfl rfl (show _ = v2 from rfl) ⟨gh, hxh, homh⟩)
def f98 (x0 : List Int) (x1 : Int → Option Bool) : Option (Int) :=
 jn (σ := Unit) (fun _ =>
  some ((-1 : Int))
  ) fun k18 =>
 lp (σ := Int) (fun k19 o0 =>
  bif (decide (o0 < ((x0).length : Int))) then
   jn (σ := Unit) (fun _ =>
    k19 ((w64 (o0 + (1 : Int))))
    ) fun k28 =>
   (idx x0 o0).bind fun m7 =>
   (x1 m7).bind fun a9 =>
   bif a9 then
    some (o0)
   else
    k28 ()
  else
   k18 ()
  ) big ((0 : Int))
theorem en98 : Enters Tryz.prog 98 := enters_of Tryz.func98 (by kernel_rfl) rfl
theorem wk98 {gI : Gh} {wI : World} {x0 : List Int} {x1 : Int → Option Bool} {up0 : Value} (rp0 : RV gI.m wI x0 up0) {up1 : Value} (rp1 : FnV1 Tryz.prog x1 up1 gI wI) {r : Int} (h : f98 x0 x1 = some r) : Fn Tryz.prog 98 #[up0, up1] gI wI (fun _ _ v => v = .int .i64 (r)) := by
 unfold f98 at h
 refine fn_of_E Tryz.func98 rfl (Nat.le_of_ble_eq_true rfl) fun g0 hm hfr => ?_
 have rp0 : RV g0.m wI x0 up0 := hm ▸ rp0
 obtain ⟨ff1, fa1, fc1, rfl, fen1, fcl1⟩ := rp1
 show E _ 19 none _ _ _ _ _
 refine E_seq (E_region (EL_at (.int .i64 (0)) rfl rfl ?_))
 refine EL_nil (thn_n (E_joinC h (fun (s : Unit) e w => ∃ (g : Gh) , Fr gI wI g w) (fun X18 k18 d9 h => ?_) ?_))
 ·refine E_seq (E_region (EL_mw up0 rfl rfl ?_))
  refine EL_p (.int .i64 ((x0).length : Int)) (P_len Tryz.underlying23 rfl rp0) rfl ?_
  refine EL_mw (.int .i64 (0)) rfl rfl ?_
  refine EL_nil (thn_n (E_block ?_))
  refine E_lp h (fun (s : Int) e w => ∃ (g : Gh) , Fr gI wI g w ∧ e 0 = up0 ∧ RV g.m w (x0 : List Int) up0 ∧ e 1 = (.func (.func ff1) fa1 fc1) ∧ e 7 = .int .i64 (((x0).length : Int)) ∧ e 8 = .int .i64 (s)) ⟨g0, hfr, rfl, rp0, rfl, rfl, rfl⟩ (fun X19 k19 k9 => ?_)
  rintro o0 yA iB ⟨g8, hfr, i6, u3, x6, i7, l5⟩ h
  refine E_seq (E_region (EL_in (.bool ((decide (o0 < ((x0).length : Int))))) l5 i7 rfl rfl ?_))
  refine EL_nil (thn_n (E_seq ?_))
  rcases csome h with ⟨t5, h⟩ | ⟨t5, h⟩
  ·refine E_ct t5 rfl ?_
   refine E_skip (thn_n (E_joinC h (fun (s : Unit) e w => ∃ (g : Gh) , Fr gI wI g w ∧ e 0 = up0 ∧ RV g.m w (x0 : List Int) up0 ∧ e 1 = (.func (.func ff1) fa1 fc1) ∧ e 7 = .int .i64 (((x0).length : Int)) ∧ e 8 = .int .i64 (o0)) (fun X28 k28 l9 h => ?_) ?_))
   ·refine E_block ?_
    refine E_seq (E_region (EL_mv l5 rfl ?_))
    refine EL_at (.int .i64 (o0)) rfl rfl ?_
    refine EL_nil (thn_n (E_seq (E_region (EL_mv x6 rfl ?_))))
    refine EL_mv i6 rfl ?_
    refine EL_mw (.int .i64 (o0)) rfl rfl ?_
    obtain ⟨m7, k8, h⟩ := bsome h
    refine EL_p (ePtr up0 o0 1) (P_indexAddr (α := Int) Tryz.underlying23 Tryz.sizeOf3 rfl u3 rfl k8) rfl ?_
    have u9 := PT_idx u3 k8
    refine EL_do .plain rfl (D_load (g := g8) Tryz.isAgg3 Tryz.sizeOf3 rfl u9 fun lB y9 => ?_)
    obtain rfl := RV_int.1 y9
    obtain ⟨a9, n9, h⟩ := bsome h
    refine EL_do .plain rfl (D_callv (g := g8) (vs := [.int .i64 (m7)]) rfl fen1 (.cons rfl .nil) (fcl1 _ _ hfr.ch _ _ _  (RV_int.2 rfl) n9) fun bA mB nB hs hr => ?_)
    have hfr := hfr.ext hs
    have u3 := u3.ext hs
    obtain rfl := RV_bool.1 hr
    refine EL_nil (thn_n ?_)
    rcases csome h with ⟨x5, h⟩ | ⟨x5, h⟩
    ·refine E_ct x5 rfl ?_
     refine E_seq (E_region (EL_mw (.int .i64 (o0)) rfl rfl ?_))
     refine EL_at (.int .i64 (o0)) rfl rfl ?_
     refine EL_nil (thn_n (E_ret (blk_r ?_)))
     refine thn_r ?_
     refine thn_r ?_
     refine blk_r ?_
     refine thn_r ?_
     obtain rfl := sinj h
     exact end1 rfl rfl (show _ = .int .i64 (o0) from rfl) ⟨_, hfr, rfl⟩
    ·refine E_cf x5 rfl ?_
     exact E_skip (blk_n (thn_n (l9 () _ _ ⟨bA, hfr, i6, u3, x6, i7, l5⟩ h)))
   ·rintro _ aB oB ⟨iA, hfr, l8, m8, n8, r8, v8⟩ h
    refine E_region (EL_in (.int .i64 ((w64 (o0 + (1 : Int))))) v8 rfl rfl rfl ?_)
    refine EL_mw (.int .i64 ((w64 (o0 + (1 : Int))))) rfl rfl ?_
    exact EL_nil (thn_n (k9 ((w64 (o0 + (1 : Int)))) _ _ ⟨iA, hfr, l8, m8, n8, r8, rfl⟩ h))
  ·refine E_cf t5 rfl ?_
   refine E_exit ?_
   refine thn_e ?_
   refine thn_e ?_
   refine blk_hit ?_
   exact thn_n (d9 () _ _ ⟨g8, hfr⟩ h)
 ·rintro _ dB tB ⟨vB, hfr⟩ h
  refine E_seq (E_region (EL_at (.int .i64 (-1)) rfl rfl ?_))
  refine EL_nil (thn_n (E_ret ?_))
  obtain rfl := sinj h
  exact end1 rfl rfl (show _ = .int .i64 (-1) from rfl) ⟨_, hfr, rfl⟩
def f101 (x0 : Int) : Option (Bool) :=
 some ((x0 != x0))
theorem en101 : Enters Tryz.prog 101 := enters_of Tryz.func101 (by kernel_rfl) rfl
theorem wk101 {gI : Gh} {wI : World} {x0 : Int}  {r : Bool} (h : f101 x0 = some r) : Fn Tryz.prog 101 #[.int .i64 (x0)] gI wI (fun _ _ v => v = .bool (r)) := by
 unfold f101 at h
 refine fn_of_E Tryz.func101 rfl (Nat.le_of_ble_eq_true rfl) fun g0 hm hfr => ?_
 show E _ 6 none _ _ _ _ _
 refine E_seq (E_region (EL_at (.bool false) rfl rfl ?_))
 refine EL_nil (thn_n (E_seq (E_region (EL_mw (.int .i64 (x0)) rfl rfl ?_))))
 refine EL_mw (.int .i64 (x0)) rfl rfl ?_
 refine EL_in (.bool ((x0 != x0))) rfl rfl rfl rfl ?_
 refine EL_at (.bool ((x0 != x0))) rfl rfl ?_
 refine EL_nil (thn_n (E_ret ?_))
 obtain rfl := sinj h
 exact end1 rfl rfl (show _ = .bool ((x0 != x0)) from rfl) ⟨_, hfr, rfl⟩
def f103 (x0 : List PayRate) (x1 : Int) (x2 : PayRate → Int → Option Int) : Option (Int × Bool) :=
 Option.bind (α := Int) (
  lp (σ := Int × Int) (fun aB (t5, u3) =>
   jn (σ := Unit) (fun _ =>
    (shr64 ((wu64 (w64 (t5 + u3)))) ((1 : Int))).bind fun x5 =>
    (idx x0 (w64 x5)).bind fun mC =>
    (x2 mC x1).bind fun dB =>
    bif (decide (dB < (0 : Int))) then
     aB ((w64 ((w64 x5) + (1 : Int))), u3)
    else
     aB (t5, (w64 x5))
    ) fun qC =>
   bif (decide (t5 < u3)) then
    qC ()
   else
    some (t5)
   ) big ((0 : Int), ((x0).length : Int))
  ) fun o0 =>
 Option.bind (α := Int × Bool) (
  bif (decide (o0 < ((x0).length : Int))) then
   (idx x0 o0).bind fun rC =>
   (x2 rC x1).bind fun n8 =>
   some (o0, (n8 == (0 : Int)))
  else
   some (o0, false)
  ) fun (x6, i7) =>
 some (x6, i7)
theorem en103 : Enters Tryz.prog 103 := enters_of Tryz.func103 (by kernel_rfl) rfl
theorem wk103 {gI : Gh} {wI : World} {x0 : List PayRate} {x1 : Int} {x2 : PayRate → Int → Option Int} {up0 : Value} (rp0 : RV gI.m wI x0 up0) {up2 : Value} (rp2 : FnV2 Tryz.prog x2 up2 gI wI) {r : Int × Bool} (h : f103 x0 x1 x2 = some r) : Fn Tryz.prog 103 #[up0, .int .i64 (x1), up2] gI wI (fun m w v => ∃ y0 y1, v = .tuple #[y0, y1] ∧ y0 = .int .i64 (r.1) ∧ y1 = .bool (r.2)) := by
 unfold f103 at h
 refine fn_of_E Tryz.func103 rfl (Nat.le_of_ble_eq_true rfl) fun g0 hm hfr => ?_
 have rp0 : RV g0.m wI x0 up0 := hm ▸ rp0
 obtain ⟨ff2, fa2, fc2, rfl, fen2, fcl2⟩ := rp2
 show E _ 49 none _ _ _ _ _
 refine E_seq (E_region (EL_at (.int .i64 (0)) rfl rfl ?_))
 refine EL_at (.bool false) rfl rfl ?_
 refine EL_nil (thn_n (E_seq (E_region (EL_mw up0 rfl rfl ?_))))
 refine EL_p (.int .i64 ((x0).length : Int)) (P_len Tryz.underlying22 rfl rp0) rfl ?_
 refine EL_at (.int .i64 ((x0).length : Int)) rfl rfl ?_
 refine EL_nil (thn_n (E_seq (E_region (EL_mw (.int .i64 ((x0).length : Int)) rfl rfl ?_))))
 refine EL_at (.int .i64 (0)) rfl rfl ?_
 refine EL_at (.int .i64 ((x0).length : Int)) rfl rfl ?_
 refine EL_nil (thn_n ?_)
 obtain ⟨o0, hx, h⟩ := bsome h
 refine E_join (fun e w => ∃ (g : Gh) , Fr gI wI g w ∧ e 0 = up0 ∧ RV g.m w (x0 : List PayRate) up0 ∧ e 1 = .int .i64 (x1) ∧ e 2 = (.func (.func ff2) fa2 fc2) ∧ e 8 = .int .i64 (((x0).length : Int)) ∧ e 9 = .int .i64 (o0)) (fun Q' hQ => ?_) (fun uD aE hR => ?_)
 ·replace h := hx
  clear hx
  refine E_block ?_
  refine E_lp h (fun (s : Int × Int) e w => ∃ (g : Gh) , Fr gI wI g w ∧ e 0 = up0 ∧ RV g.m w (x0 : List PayRate) up0 ∧ e 1 = .int .i64 (x1) ∧ e 2 = (.func (.func ff2) fa2 fc2) ∧ e 8 = .int .i64 (((x0).length : Int)) ∧ e 9 = .int .i64 (s.1) ∧ e 10 = .int .i64 (s.2)) ⟨g0, hfr, rfl, rp0, rfl, rfl, rfl, rfl, rfl⟩ (fun X14 aB iB => ?_)
  rintro ⟨t5, u3⟩ xD w15 ⟨uC, hfr, k9, l9, n9, u9, y9, m7, r8⟩ h
  refine E_joinC h (fun (s : Unit) e w => ∃ (g : Gh) , Fr gI wI g w ∧ e 0 = up0 ∧ RV g.m w (x0 : List PayRate) up0 ∧ e 1 = .int .i64 (x1) ∧ e 2 = (.func (.func ff2) fa2 fc2) ∧ e 8 = .int .i64 (((x0).length : Int)) ∧ e 9 = .int .i64 (t5) ∧ e 10 = .int .i64 (u3)) (fun X17 qC bD h => ?_) ?_
  ·refine E_seq (E_region (EL_mv m7 rfl ?_))
   refine EL_mv r8 rfl ?_
   refine EL_in (.bool ((decide (t5 < u3)))) rfl rfl rfl rfl ?_
   refine EL_nil (thn_n ?_)
   rcases csome h with ⟨a9, h⟩ | ⟨a9, h⟩
   ·refine E_ct a9 rfl ?_
    exact E_skip (thn_n (bD () _ _ ⟨uC, hfr, k9, l9, n9, u9, y9, m7, r8⟩ h))
   ·refine E_cf a9 rfl ?_
    refine E_exit ?_
    refine thn_e ?_
    refine thn_e ?_
    refine blk_hit ?_
    obtain rfl := sinj h
    exact hQ _ _ ⟨uC, hfr, k9, l9, n9, u9, y9, m7⟩
  ·rintro _ yD bE ⟨vC, hfr, g8, i6, k8, l8, bA, iA, v8⟩ h
   refine E_block ?_
   refine E_seq (E_region (EL_mv iA rfl ?_))
   refine EL_mv v8 rfl ?_
   refine EL_in (.int .i64 ((w64 (t5 + u3)))) rfl rfl rfl rfl ?_
   refine EL_p (.int .u64 (wu64 (w64 (t5 + u3)))) (P_intu64 Tryz.underlying3 Tryz.underlying85 rfl) rfl ?_
   obtain ⟨x5, hy20, h⟩ := bsome h
   refine EL_p (.int .u64 (x5)) (P_shrU rfl rfl hy20) rfl ?_
   refine EL_p (.int .i64 ((w64 x5))) (P_u64int Tryz.underlying85 Tryz.underlying3 rfl) rfl ?_
   refine EL_at (.int .i64 ((w64 x5))) rfl rfl ?_
   refine EL_nil (thn_n (E_seq (E_region (EL_mv l8 rfl ?_))))
   refine EL_mv g8 rfl ?_
   refine EL_mw (.int .i64 ((w64 x5))) rfl rfl ?_
   obtain ⟨mC, lB, h⟩ := bsome h
   refine EL_p (ePtr up0 (w64 x5) 2) (P_indexAddr (α := PayRate) Tryz.underlying22 Tryz.sizeOf87 rfl i6 rfl lB) rfl ?_
   have iD := PT_idx i6 lB
   refine EL_do .plain rfl (D_load (g := vC) Tryz.isAgg87 Tryz.sizeOf87 rfl iD fun jD lD => ?_)
   refine EL_mv k8 rfl ?_
   obtain ⟨dB, cD, h⟩ := bsome h
   refine EL_do .plain rfl (D_callv (g := vC) (vs := [jD, .int .i64 (x1)]) rfl fen2 (.cons rfl (.cons rfl .nil)) (fcl2 _ _ hfr.ch _ _ _ _ _  lD (RV_int.2 rfl) cD) fun aD iE lE hs hr => ?_)
   have hfr := hfr.ext hs
   have i6 := i6.ext hs
   obtain rfl := RV_int.1 hr
   refine EL_in (.bool ((decide (dB < (0 : Int))))) rfl rfl rfl rfl ?_
   refine EL_nil (thn_n ?_)
   rcases csome h with ⟨d9, h⟩ | ⟨d9, h⟩
   ·refine E_ct d9 rfl ?_
    refine E_region (EL_mw (.int .i64 ((w64 x5))) rfl rfl ?_)
    refine EL_in (.int .i64 ((w64 ((w64 x5) + (1 : Int))))) rfl rfl rfl rfl ?_
    refine EL_at (.int .i64 ((w64 ((w64 x5) + (1 : Int))))) rfl rfl ?_
    exact EL_nil (blk_n (thn_n (iB ((w64 ((w64 x5) + (1 : Int))), u3) _ _ ⟨aD, hfr, g8, i6, k8, l8, bA, rfl, v8⟩ h)))
   ·refine E_cf d9 rfl ?_
    refine E_region (EL_mw (.int .i64 ((w64 x5))) rfl rfl ?_)
    refine EL_at (.int .i64 ((w64 x5))) rfl rfl ?_
    exact EL_nil (blk_n (thn_n (iB (t5, (w64 x5)) _ _ ⟨aD, hfr, g8, i6, k8, l8, bA, iA, rfl⟩ h)))
 ·clear hx
  obtain ⟨mB, hfr, oB, yA, tB, vB, yB, m8⟩ := hR
  obtain ⟨⟨x6, i7⟩, hx, h⟩ := bsome h
  refine E_join (fun e w => ∃ (g : Gh) , Fr gI wI g w ∧ e 6 = .int .i64 (x6) ∧ e 7 = .bool (i7)) (fun Q' hQ => ?_) (fun zD mE hR => ?_)
  ·replace h := hx
   clear hx
   refine E_region (EL_mv m8 rfl ?_)
   refine EL_mv m8 rfl ?_
   refine EL_mv yB rfl ?_
   refine EL_in (.bool ((decide (o0 < ((x0).length : Int))))) rfl rfl rfl rfl ?_
   refine EL_mw (.bool ((decide (o0 < ((x0).length : Int))))) rfl rfl ?_
   rcases csome h with ⟨l5, h⟩ | ⟨l5, h⟩
   ·refine EL_y ((.func (.func ff2) fa2 fc2)) (P_move vB) rfl rfl l5 rfl ?_
    refine EL_y up0 (P_move oB) rfl rfl l5 rfl ?_
    refine EL_y (.int .i64 (o0)) (P_move m8) rfl rfl l5 rfl ?_
    obtain ⟨rC, nB, h⟩ := bsome h
    refine EL_y (ePtr up0 o0 2) (P_indexAddr (α := PayRate) Tryz.underlying22 Tryz.sizeOf87 rfl yA rfl nB) rfl rfl l5 rfl ?_
    have nD := PT_idx yA nB
    refine EL_do (.yes2 rfl rfl l5) rfl (D_load (g := mB) Tryz.isAgg87 Tryz.sizeOf87 rfl nD fun oD sD => ?_)
    refine EL_y (.int .i64 (x1)) (P_move tB) rfl rfl l5 rfl ?_
    obtain ⟨n8, eD, h⟩ := bsome h
    refine EL_do (.yes2 rfl rfl l5) rfl (D_callv (g := mB) (vs := [oD, .int .i64 (x1)]) rfl fen2 (.cons rfl (.cons rfl .nil)) (fcl2 _ _ hfr.ch _ _ _ _ _  sD (RV_int.2 rfl) eD) fun tD oE rE hs hr => ?_)
    have hfr := hfr.ext hs
    obtain rfl := RV_int.1 hr
    refine EL_y (.bool ((n8 == (0 : Int)))) (P_int rfl rfl rfl) rfl rfl l5 rfl ?_
    refine EL_p (.bool ((n8 == (0 : Int)))) (P_pick (b := (decide (o0 < ((x0).length : Int)))) rfl (pick_t l5 rfl)) rfl ?_
    refine EL_at (.int .i64 (o0)) rfl rfl ?_
    refine EL_at (.bool ((n8 == (0 : Int)))) rfl rfl ?_
    refine EL_nil ?_
    obtain ⟨rfl, rfl⟩ := pairs2 h
    exact hQ _ _ ⟨tD, hfr, rfl, rfl⟩
   ·refine EL_s rfl rfl l5 rfl rfl ?_
    iterate 7 refine EL_s rfl rfl l5 rfl rfl ?_
    refine EL_p (.bool false) (P_pick (b := (decide (o0 < ((x0).length : Int)))) rfl (pick_f l5 rfl)) rfl ?_
    refine EL_at (.int .i64 (o0)) rfl rfl ?_
    refine EL_at (.bool false) rfl rfl ?_
    refine EL_nil ?_
    obtain ⟨rfl, rfl⟩ := pairs2 h
    exact hQ _ _ ⟨mB, hfr, rfl, rfl⟩
  ·clear hx
   obtain ⟨uE, hfr, zB, cC⟩ := hR
   refine E_ret ?_
   obtain rfl := sinj h
   exact end2 rfl rfl (show _ = .int .i64 (x6) from zB) (show _ = .bool (i7) from cC) ⟨_, hfr, _, _, rfl, rfl, rfl⟩
def f124 (x0 : Int) (x1 : Int) : Option (Bool) :=
 Option.bind (α := Bool) (
  (f101 x0).bind fun y8 =>
  bif y8 then
   (f101 x1).bind fun y11 =>
   bif (!y11) then
    some (true)
   else
    some ((decide (x0 < x1)))
  else
   some ((decide (x0 < x1)))
  ) fun l5 =>
 some (l5)
theorem en124 : Enters Tryz.prog 124 := enters_of Tryz.func124 (by kernel_rfl) rfl
theorem wk124 {gI : Gh} {wI : World} {x0 : Int} {x1 : Int}  {r : Bool} (h : f124 x0 x1 = some r) : Fn Tryz.prog 124 #[.int .i64 (x0), .int .i64 (x1)] gI wI (fun _ _ v => v = .bool (r)) := by
 unfold f124 at h
 refine fn_of_E Tryz.func124 rfl (Nat.le_of_ble_eq_true rfl) fun g0 hm hfr => ?_
 show E _ 17 none _ _ _ _ _
 refine E_seq (E_region (EL_at (.bool false) rfl rfl ?_))
 refine EL_nil (thn_n ?_)
 obtain ⟨l5, hx, h⟩ := bsome h
 refine E_join (fun e w => ∃ (g : Gh) , Fr gI wI g w ∧ e 4 = .bool (l5)) (fun Q' hQ => ?_) (fun i7 g8 hR => ?_)
 ·replace h := hx
  clear hx
  refine E_region (EL_mw (.int .i64 (x0)) rfl rfl ?_)
  obtain ⟨y8, x6, h⟩ := bsome h
  refine EL_do .plain rfl (D_call (g := g0) (vs := [.int .i64 (x0)]) en101 (.cons rfl .nil) (wk101  x6) fun g7 w7_ v7 hs hr => ?_)
  have hfr := hfr.ext hs
  subst hr
  refine EL_mw (.bool (y8)) rfl rfl ?_
  rcases csome h with ⟨u3, h⟩ | ⟨u3, h⟩
  ·refine EL_y (.int .i64 (x1)) (P_move rfl) rfl rfl u3 rfl ?_
   obtain ⟨y11, i6, h⟩ := bsome h
   refine EL_do (.yes2 rfl rfl u3) rfl (D_call (g := g7) (vs := [.int .i64 (x1)]) en101 (.cons rfl .nil) (wk101  i6) fun x5 m7 k8 hs hr => ?_)
   have hfr := hfr.ext hs
   subst hr
   refine EL_y (.bool (!y11)) (P_not rfl) rfl rfl u3 rfl ?_
   refine EL_p (.bool (!y11)) (P_pick (b := y8) rfl (pick_t u3 rfl)) rfl ?_
   refine EL_mw (.bool (!y11)) rfl rfl ?_
   rcases csome h with ⟨o0, h⟩ | ⟨o0, h⟩
   ·refine EL_s rfl rfl o0 rfl rfl ?_
    refine EL_s rfl rfl o0 rfl rfl ?_
    refine EL_s rfl rfl o0 rfl rfl ?_
    refine EL_p (.bool true) (P_pick (b := (!y11)) rfl (pick_t o0 rfl)) rfl ?_
    refine EL_at (.bool true) rfl rfl ?_
    refine EL_nil ?_
    obtain rfl := sinj h
    exact hQ _ _ ⟨x5, hfr, rfl⟩
   ·refine EL_y (.int .i64 (x0)) (P_move rfl) rfl rfl o0 rfl ?_
    refine EL_y (.int .i64 (x1)) (P_move rfl) rfl rfl o0 rfl ?_
    refine EL_y (.bool ((decide (x0 < x1)))) (P_int rfl rfl rfl) rfl rfl o0 rfl ?_
    refine EL_p (.bool ((decide (x0 < x1)))) (P_pick (b := (!y11)) rfl (pick_f o0 rfl)) rfl ?_
    refine EL_at (.bool ((decide (x0 < x1)))) rfl rfl ?_
    refine EL_nil ?_
    obtain rfl := sinj h
    exact hQ _ _ ⟨x5, hfr, rfl⟩
  ·refine EL_s rfl rfl u3 rfl rfl ?_
   refine EL_s rfl rfl u3 rfl rfl ?_
   refine EL_s rfl rfl u3 rfl rfl ?_
   refine EL_p (.bool false) (P_pick (b := y8) rfl (pick_f u3 rfl)) rfl ?_
   refine EL_mw (.bool false) rfl rfl ?_
   refine EL_y (.int .i64 (x0)) (P_move rfl) rfl rfl rfl rfl ?_
   refine EL_y (.int .i64 (x1)) (P_move rfl) rfl rfl rfl rfl ?_
   refine EL_y (.bool ((decide (x0 < x1)))) (P_int rfl rfl rfl) rfl rfl rfl rfl ?_
   refine EL_p (.bool ((decide (x0 < x1)))) (P_pick (b := false) rfl (pick_f rfl rfl)) rfl ?_
   refine EL_at (.bool ((decide (x0 < x1)))) rfl rfl ?_
   refine EL_nil ?_
   obtain rfl := sinj h
   exact hQ _ _ ⟨g7, hfr, rfl⟩
 ·clear hx
  obtain ⟨l8, hfr, t5⟩ := hR
  refine E_ret ?_
  obtain rfl := sinj h
  exact end1 rfl rfl (show _ = .bool (l5) from t5) ⟨_, hfr, rfl⟩
def f68 (x0 : List Int) (x1 : Int → Option Bool) : Option (Bool) :=
 (f98 x0 x1).bind fun y2 =>
 some ((decide (y2 ≥ (0 : Int))))
theorem en68 : Enters Tryz.prog 68 := enters_of Tryz.func68 (by kernel_rfl) rfl
theorem wk68 {gI : Gh} {wI : World} {x0 : List Int} {x1 : Int → Option Bool} {up0 : Value} (rp0 : RV gI.m wI x0 up0) {up1 : Value} (rp1 : FnV1 Tryz.prog x1 up1 gI wI) {r : Bool} (h : f68 x0 x1 = some r) : Fn Tryz.prog 68 #[up0, up1] gI wI (fun _ _ v => v = .bool (r)) := by
 unfold f68 at h
 refine fn_of_E Tryz.func68 rfl (Nat.le_of_ble_eq_true rfl) fun g0 hm hfr => ?_
 have rp0 : RV g0.m wI x0 up0 := hm ▸ rp0
 obtain ⟨ff1, fa1, fc1, rfl, fen1, fcl1⟩ := rp1
 show E _ 9 none _ _ _ _ _
 refine E_seq (E_region (EL_at (.bool false) rfl rfl ?_))
 refine EL_nil (thn_n (E_seq (E_region (EL_mw up0 rfl rfl ?_))))
 refine EL_mw ((.func (.func ff1) fa1 fc1)) rfl rfl ?_
 obtain ⟨y2, hy2, h⟩ := bsome h
 refine EL_do .plain rfl (D_call (g := g0) (vs := [up0, (.func (.func ff1) fa1 fc1)]) en98 (.cons rfl (.cons rfl .nil)) (wk98 rp0 (FnV1.ch ⟨_, _, _, rfl, fen1, fcl1⟩ hfr.ch) hy2) fun g1 w1_ v1 hs hr => ?_)
 have hfr := hfr.ext hs
 subst hr
 refine EL_in (.bool ((decide (y2 ≥ (0 : Int))))) rfl rfl rfl rfl ?_
 refine EL_at (.bool ((decide (y2 ≥ (0 : Int))))) rfl rfl ?_
 refine EL_nil (thn_n (E_ret ?_))
 obtain rfl := sinj h
 exact end1 rfl rfl (show _ = .bool ((decide (y2 ≥ (0 : Int)))) from rfl) ⟨_, hfr, rfl⟩
def f77 (x0 : Int) (x1 : Int) : Option (Int) :=
 (f101 x0).bind fun y2 =>
 (f101 x1).bind fun y4 =>
 jn (σ := Unit) (fun _ =>
  jn (σ := Unit) (fun _ =>
   jn (σ := Unit) (fun _ =>
    jn (σ := Unit) (fun _ =>
     some ((0 : Int))
     ) fun m8 =>
    bif (decide (x0 > x1)) then
     some ((1 : Int))
    else
     m8 ()
    ) fun n8 =>
   bif (decide (x0 < x1)) then
    some ((-1 : Int))
   else
    n8 ()
   ) fun k18 =>
  bif y4 then
   some ((1 : Int))
  else
   k18 ()
  ) fun r8 =>
 bif y2 then
  jn (σ := Unit) (fun _ =>
   some ((-1 : Int))
   ) fun v8 =>
  bif y4 then
   some ((0 : Int))
  else
   v8 ()
 else
  r8 ()
theorem en77 : Enters Tryz.prog 77 := enters_of Tryz.func77 (by kernel_rfl) rfl
theorem wk77 {gI : Gh} {wI : World} {x0 : Int} {x1 : Int}  {r : Int} (h : f77 x0 x1 = some r) : Fn Tryz.prog 77 #[.int .i64 (x0), .int .i64 (x1)] gI wI (fun _ _ v => v = .int .i64 (r)) := by
 unfold f77 at h
 refine fn_of_E Tryz.func77 rfl (Nat.le_of_ble_eq_true rfl) fun g0 hm hfr => ?_
 show E _ 20 none _ _ _ _ _
 refine E_seq (E_region (EL_at (.int .i64 (0)) rfl rfl ?_))
 refine EL_nil (thn_n (E_seq (E_region (EL_mw (.int .i64 (x0)) rfl rfl ?_))))
 obtain ⟨y2, hy2, h⟩ := bsome h
 refine EL_do .plain rfl (D_call (g := g0) (vs := [.int .i64 (x0)]) en101 (.cons rfl .nil) (wk101  hy2) fun g1 w1_ v1 hs hr => ?_)
 have hfr := hfr.ext hs
 subst hr
 refine EL_at (.bool (y2)) rfl rfl ?_
 refine EL_nil (thn_n (E_seq (E_region (EL_mw (.int .i64 (x1)) rfl rfl ?_))))
 obtain ⟨y4, u9, h⟩ := bsome h
 refine EL_do .plain rfl (D_call (g := g1) (vs := [.int .i64 (x1)]) en101 (.cons rfl .nil) (wk101  u9) fun g3 w3_ v3 hs hr => ?_)
 have hfr := hfr.ext hs
 subst hr
 refine EL_at (.bool (y4)) rfl rfl ?_
 refine EL_nil (thn_n (E_joinC h (fun (s : Unit) e w => ∃ (g : Gh) , Fr gI wI g w ∧ e 0 = .int .i64 (x0) ∧ e 1 = .int .i64 (x1) ∧ e 6 = .bool (y4)) (fun X10 r8 a9 h => ?_) ?_))
 ·refine E_seq (E_region (EL_mw (.bool (y2)) rfl rfl ?_))
  refine EL_nil (thn_n ?_)
  rcases csome h with ⟨o0, h⟩ | ⟨o0, h⟩
  ·refine E_ct o0 rfl ?_
   refine E_joinC h (fun (s : Unit) e w => ∃ (g : Gh) , Fr gI wI g w) (fun X13 v8 d9 h => ?_) ?_
   ·refine E_seq (E_region (EL_mw (.bool (y4)) rfl rfl ?_))
    refine EL_nil (thn_n ?_)
    rcases csome h with ⟨u3, h⟩ | ⟨u3, h⟩
    ·refine E_ct u3 rfl ?_
     refine E_seq (E_region (EL_at (.int .i64 (0)) rfl rfl ?_))
     refine EL_nil (thn_n (E_ret (thn_r ?_)))
     refine thn_r ?_
     obtain rfl := sinj h
     exact end1 rfl rfl (show _ = .int .i64 (0) from rfl) ⟨_, hfr, rfl⟩
    ·refine E_cf u3 rfl ?_
     exact E_skip (thn_n (d9 () _ _ ⟨g3, hfr⟩ h))
   ·rintro _ yA w15 ⟨mB, hfr⟩ h
    refine E_seq (E_region (EL_at (.int .i64 (-1)) rfl rfl ?_))
    refine EL_nil (thn_n (E_ret (thn_r ?_)))
    obtain rfl := sinj h
    exact end1 rfl rfl (show _ = .int .i64 (-1) from rfl) ⟨_, hfr, rfl⟩
  ·refine E_cf o0 rfl ?_
   exact E_skip (thn_n (a9 () _ _ ⟨g3, hfr, rfl, rfl, rfl⟩ h))
 ·rintro _ aB nB ⟨y9, hfr, i7, m7, g8⟩ h
  refine E_joinC h (fun (s : Unit) e w => ∃ (g : Gh) , Fr gI wI g w ∧ e 0 = .int .i64 (x0) ∧ e 1 = .int .i64 (x1)) (fun X18 k18 k9 h => ?_) ?_
  ·refine E_seq (E_region (EL_mv g8 rfl ?_))
   refine EL_nil (thn_n ?_)
   rcases csome h with ⟨l5, h⟩ | ⟨l5, h⟩
   ·refine E_ct l5 rfl ?_
    refine E_seq (E_region (EL_at (.int .i64 (1)) rfl rfl ?_))
    refine EL_nil (thn_n (E_ret (thn_r ?_)))
    obtain rfl := sinj h
    exact end1 rfl rfl (show _ = .int .i64 (1) from rfl) ⟨_, hfr, rfl⟩
   ·refine E_cf l5 rfl ?_
    exact E_skip (thn_n (k9 () _ _ ⟨y9, hfr, i7, m7⟩ h))
  ·rintro _ dB oB ⟨bA, hfr, i6, x6⟩ h
   refine E_joinC h (fun (s : Unit) e w => ∃ (g : Gh) , Fr gI wI g w ∧ e 0 = .int .i64 (x0) ∧ e 1 = .int .i64 (x1)) (fun X22 n8 l9 h => ?_) ?_
   ·refine E_seq (E_region (EL_mv i6 rfl ?_))
    refine EL_mv x6 rfl ?_
    refine EL_in (.bool ((decide (x0 < x1)))) rfl rfl rfl rfl ?_
    refine EL_nil (thn_n ?_)
    rcases csome h with ⟨t5, h⟩ | ⟨t5, h⟩
    ·refine E_ct t5 rfl ?_
     refine E_seq (E_region (EL_at (.int .i64 (-1)) rfl rfl ?_))
     refine EL_nil (thn_n (E_ret (thn_r ?_)))
     obtain rfl := sinj h
     exact end1 rfl rfl (show _ = .int .i64 (-1) from rfl) ⟨_, hfr, rfl⟩
    ·refine E_cf t5 rfl ?_
     exact E_skip (thn_n (l9 () _ _ ⟨bA, hfr, i6, x6⟩ h))
   ·rintro _ iB tB ⟨iA, hfr, k8, l8⟩ h
    refine E_joinC h (fun (s : Unit) e w => ∃ (g : Gh) , Fr gI wI g w) (fun X26 m8 n9 h => ?_) ?_
    ·refine E_seq (E_region (EL_mv k8 rfl ?_))
     refine EL_mv l8 rfl ?_
     refine EL_in (.bool ((decide (x0 > x1)))) rfl rfl rfl rfl ?_
     refine EL_nil (thn_n ?_)
     rcases csome h with ⟨x5, h⟩ | ⟨x5, h⟩
     ·refine E_ct x5 rfl ?_
      refine E_seq (E_region (EL_at (.int .i64 (1)) rfl rfl ?_))
      refine EL_nil (thn_n (E_ret (thn_r ?_)))
      obtain rfl := sinj h
      exact end1 rfl rfl (show _ = .int .i64 (1) from rfl) ⟨_, hfr, rfl⟩
     ·refine E_cf x5 rfl ?_
      exact E_skip (thn_n (n9 () _ _ ⟨iA, hfr⟩ h))
    ·rintro _ lB vB ⟨yB, hfr⟩ h
     refine E_seq (E_region (EL_at (.int .i64 (0)) rfl rfl ?_))
     refine EL_nil (thn_n (E_ret ?_))
     obtain rfl := sinj h
     exact end1 rfl rfl (show _ = .int .i64 (0) from rfl) ⟨_, hfr, rfl⟩
def f104 (x0 : PayRate) (x1 : Int) : Option (Int) :=
 (f77 ((x0).From) x1).bind fun y5 =>
 some (y5)
theorem en104 : Enters Tryz.prog 104 := enters_of Tryz.func104 (by kernel_rfl) rfl
theorem wk104 {gI : Gh} {wI : World} {x0 : PayRate} {x1 : Int} {up0 : Value} (rp0 : RV gI.m wI x0 up0) {r : Int} (h : f104 x0 x1 = some r) : Fn Tryz.prog 104 #[up0, .int .i64 (x1)] gI wI (fun _ _ v => v = .int .i64 (r)) := by
 unfold f104 at h
 refine fn_of_E Tryz.func104 rfl (Nat.le_of_ble_eq_true rfl) fun g0 hm hfr => ?_
 have rp0 : RV g0.m wI x0 up0 := hm ▸ rp0
 show E _ 9 none _ _ _ _ _
 refine E_seq (E_region (EL_do .plain rfl (D_box (g := g0) rfl rp0 fun g1 w1 p1 hs q1 => ?_)))
 have hfr := hfr.ext hs
 refine EL_at (.int .i64 (0)) rfl rfl ?_
 refine EL_nil (thn_n (E_seq (E_region (EL_p (fPtr p1 0) (P_fieldAddr at_87_0 rfl (PT.ptr q1)) rfl ?_))))
 have q2 := PT_field (part_PayRate_0).1 q1
 refine EL_do .plain rfl (D_load (g := g1) Tryz.isAgg3 Tryz.sizeOf3 rfl q2 fun v3 r3 => ?_)
 obtain rfl := RV_int.1 r3
 refine EL_mw (.int .i64 (x1)) rfl rfl ?_
 obtain ⟨y5, hy5, h⟩ := bsome h
 refine EL_do .plain rfl (D_call (g := g1) (vs := [.int .i64 ((x0).From), .int .i64 (x1)]) en77 (.cons rfl (.cons rfl .nil)) (wk77  hy5) fun g4 w4_ v4 hs hr => ?_)
 have hfr := hfr.ext hs
 subst hr
 refine EL_at (.int .i64 (y5)) rfl rfl ?_
 refine EL_nil (thn_n (E_ret ?_))
 obtain rfl := sinj h
 exact end1 rfl rfl (show _ = .int .i64 (y5) from rfl) ⟨_, hfr, rfl⟩
def f116 (x0 : List Int) : Option (Bool) :=
 jn (σ := Unit) (fun _ =>
  some (true)
  ) fun k53 =>
 lp (σ := Int) (fun k54 o0 =>
  jn (σ := Unit) (fun _ =>
   jn (σ := Unit) (fun _ =>
    k54 ((w64 (o0 - (1 : Int))))
    ) fun a9 =>
   (idx x0 o0).bind fun y84 =>
   (idx x0 (w64 (o0 - (1 : Int)))).bind fun x6 =>
   (f124 y84 x6).bind fun i7 =>
   bif i7 then
    some (false)
   else
    a9 ()
   ) fun k57 =>
  bif (decide (o0 > (0 : Int))) then
   k57 ()
  else
   k53 ()
  ) big ((w64 (((x0).length : Int) - (1 : Int))))
theorem en116 : Enters Tryz.prog 116 := enters_of Tryz.func116 (by kernel_rfl) rfl
theorem wk116 {gI : Gh} {wI : World} {x0 : List Int} {up0 : Value} (rp0 : RV gI.m wI x0 up0) {r : Bool} (h : f116 x0 = some r) : Fn Tryz.prog 116 #[up0] gI wI (fun _ _ v => v = .bool (r)) := by
 unfold f116 at h
 refine fn_of_E Tryz.func116 rfl (Nat.le_of_ble_eq_true rfl) fun g0 hm hfr => ?_
 have rp0 : RV g0.m wI x0 up0 := hm ▸ rp0
 show E _ 21 none _ _ _ _ _
 refine E_seq (E_region (EL_at (.bool false) rfl rfl ?_))
 refine EL_nil (thn_n (E_joinC h (fun (s : Unit) e w => ∃ (g : Gh) , Fr gI wI g w) (fun X53 k53 k9 h => ?_) ?_))
 ·refine E_seq (E_region (EL_mw up0 rfl rfl ?_))
  refine EL_p (.int .i64 ((x0).length : Int)) (P_len Tryz.underlying23 rfl rp0) rfl ?_
  refine EL_in (.int .i64 ((w64 (((x0).length : Int) - (1 : Int))))) rfl rfl rfl rfl ?_
  refine EL_at (.int .i64 ((w64 (((x0).length : Int) - (1 : Int))))) rfl rfl ?_
  refine EL_nil (thn_n (E_block ?_))
  refine E_lp h (fun (s : Int) e w => ∃ (g : Gh) , Fr gI wI g w ∧ e 0 = up0 ∧ RV g.m w (x0 : List Int) up0 ∧ e 3 = .int .i64 (s)) ⟨g0, hfr, rfl, rp0, rfl⟩ (fun X54 k54 l9 => ?_)
  rintro o0 vB qC ⟨d9, hfr, r8, v8, m7⟩ h
  refine E_joinC h (fun (s : Unit) e w => ∃ (g : Gh) , Fr gI wI g w ∧ e 0 = up0 ∧ RV g.m w (x0 : List Int) up0 ∧ e 3 = .int .i64 (o0)) (fun X57 k57 n9 h => ?_) ?_
  ·refine E_seq (E_region (EL_mv m7 rfl ?_))
   refine EL_in (.bool ((decide (o0 > (0 : Int))))) rfl rfl rfl rfl ?_
   refine EL_nil (thn_n ?_)
   rcases csome h with ⟨i6, h⟩ | ⟨i6, h⟩
   ·refine E_ct i6 rfl ?_
    exact E_skip (thn_n (n9 () _ _ ⟨d9, hfr, r8, v8, m7⟩ h))
   ·refine E_cf i6 rfl ?_
    refine E_exit ?_
    refine thn_e ?_
    refine thn_e ?_
    refine blk_hit ?_
    exact thn_n (k9 () _ _ ⟨d9, hfr⟩ h)
  ·rintro _ yB rC ⟨aB, hfr, l5, u3, t5⟩ h
   refine E_joinC h (fun (s : Unit) e w => ∃ (g : Gh) , Fr gI wI g w ∧ e 0 = up0 ∧ RV g.m w (x0 : List Int) up0 ∧ e 3 = .int .i64 (o0)) (fun X83 a9 u9 h => ?_) ?_
   ·refine E_block ?_
    refine E_seq ?_
    obtain ⟨y84, g8, h⟩ := bsome h
    have dB := PT_idx u3 g8
    refine L_load (x := .tmp 13) Tryz.isAgg3 Tryz.sizeOf3 dB fun uC iB y9 => ?_
    obtain rfl := RV_int.1 iB
    obtain ⟨x6, k8, h⟩ := bsome h
    have lB := PT_idx u3 k8
    refine L_load (x := .tmp 18) Tryz.isAgg3 Tryz.sizeOf3 lB fun vC mB bA => ?_
    obtain rfl := RV_int.1 mB
    obtain ⟨i7, iA, h⟩ := bsome h
    refine E_drawL (g := aB) (n := 10) [(9, (fun v g w => v = .bool (i7)))] [0, 1, 2, 3, 4, 5, 6, 7, 8, 9] rfl mixed (by kernel_rfl) (⟨fun _ => up_eq _, trivial⟩) ?_
    refine L_p up0 rfl rfl (P_move l5) ?_
    refine L_p (.int .i64 (o0)) rfl rfl (P_move t5) ?_
    refine L_p (ePtr up0 o0 1) rfl rfl (P_indexAddr (α := Int) Tryz.underlying23 Tryz.sizeOf3 rfl u3 rfl g8) ?_
    refine L_ld (c := .int .i64 (y84)) rfl rfl .plain (fun _ _ h => h.ch) y9 rfl ?_
    refine L_p up0 rfl rfl (P_move l5) ?_
    refine L_p (.int .i64 (o0)) rfl rfl (P_move t5) ?_
    refine L_p (.int .i64 ((w64 (o0 - (1 : Int))))) rfl rfl (P_int rfl rfl rfl) ?_
    refine L_p (ePtr up0 (w64 (o0 - (1 : Int))) 1) rfl rfl (P_indexAddr (α := Int) Tryz.underlying23 Tryz.sizeOf3 rfl u3 rfl k8) ?_
    refine L_ld (c := .int .i64 (x6)) rfl rfl .plain (fun _ _ h => h.ch) bA rfl ?_
    refine L_do (φ := fun v g w => v = .bool (i7)) rfl rfl .plain (fun g w hd => D_call (g := g) (vs := [.int .i64 (y84), .int .i64 (x6)]) en124 (.cons rfl (.cons rfl .nil)) (wk124  iA) fun g' w' v hs hr => ⟨g', hs, hr⟩) (fun aD hv => ?_)
    obtain ⟨_, _, _, rfl⟩ := hv
    refine L_nl fun nB bD hs => ?_
    have hfr := hfr.ext hs
    have u3 := u3.ext hs
    clear hs
    refine EL_nil (thn_n ?_)
    rcases csome h with ⟨x5, h⟩ | ⟨x5, h⟩
    ·refine E_ct x5 rfl ?_
     refine E_seq (E_region (EL_at (.bool false) rfl rfl ?_))
     refine EL_nil (thn_n (E_ret (blk_r ?_)))
     refine thn_r ?_
     refine thn_r ?_
     refine blk_r ?_
     refine thn_r ?_
     obtain rfl := sinj h
     exact end1 rfl rfl (show _ = .bool false from rfl) ⟨_, hfr, rfl⟩
    ·refine E_cf x5 rfl ?_
     exact E_skip (blk_n (thn_n (u9 () _ _ ⟨nB, hfr, l5, u3, t5⟩ h)))
   ·rintro _ oB zB ⟨yA, hfr, l8, m8, n8⟩ h
    refine E_region (EL_mv n8 rfl ?_)
    refine EL_in (.int .i64 ((w64 (o0 - (1 : Int))))) rfl rfl rfl rfl ?_
    refine EL_at (.int .i64 ((w64 (o0 - (1 : Int))))) rfl rfl ?_
    exact EL_nil (thn_n (l9 ((w64 (o0 - (1 : Int)))) _ _ ⟨yA, hfr, l8, m8, rfl⟩ h))
 ·rintro _ tB cC ⟨mC, hfr⟩ h
  refine E_seq (E_region (EL_at (.bool true) rfl rfl ?_))
  refine EL_nil (thn_n (E_ret ?_))
  obtain rfl := sinj h
  exact end1 rfl rfl (show _ = .bool true from rfl) ⟨_, hfr, rfl⟩
def f54 (x0 : Int) (x1 : Int) (x2 : List Int) : Option (Bool) :=
 (f68 x2 ((fun a0 => f78 a0 x0 x1))).bind fun y4 =>
 some ((!y4))
theorem en54 : Enters Tryz.prog 54 := enters_of Tryz.func54 (by kernel_rfl) rfl
theorem wk54 {gI : Gh} {wI : World} {x0 : Int} {x1 : Int} {x2 : List Int} {up2 : Value} (rp2 : RV gI.m wI x2 up2) {r : Bool} (h : f54 x0 x1 x2 = some r) : Fn Tryz.prog 54 #[.int .i64 (x0), .int .i64 (x1), up2] gI wI (fun _ _ v => v = .bool (r)) := by
 unfold f54 at h
 refine fn_of_E Tryz.func54 rfl (Nat.le_of_ble_eq_true rfl) fun g0 hm hfr => ?_
 have rp2 : RV g0.m wI x2 up2 := hm ▸ rp2
 show E _ 11 none _ _ _ _ _
 refine E_seq (E_region (EL_do .plain rfl (D_box (g := g0) rfl (RV_int.2 rfl) fun g1 w1 p1 hs q1 => ?_)))
 have hfr := hfr.ext hs
 have rp2 := rp2.ext hs
 refine EL_do .plain rfl (D_box (g := g1) rfl (RV_int.2 rfl) fun g2 w2 p2 hs q2 => ?_)
 have hfr := hfr.ext hs
 have rp2 := rp2.ext hs
 have q1 := q1.ext hs
 refine EL_at (.bool false) rfl rfl ?_
 refine EL_nil (thn_n (E_seq (E_region (EL_mw up2 rfl rfl ?_))))
 refine EL_p ((.func (.func 78) #[] #[p1, p2])) (P_makeFunc (capf_0_2 (show ev _ _ = p1 from rfl) (show ev _ _ = p2 from rfl))) rfl ?_
 obtain ⟨y4, o0, h⟩ := bsome h
 refine EL_do .plain rfl (D_call (g := g2) (vs := [up2, (.func (.func 78) #[] #[p1, p2])]) en68 (.cons rfl (.cons rfl .nil)) (wk68 rp2 ⟨78, #[], #[p1, p2], rfl, en78, fun g' w' hch a0 b0 r hu0 hr => by obtain rfl := RV_int.1 hu0; exact Fn.mono (wk78  (q1.ch hch) (q2.ch hch) hr) fun _ _ _ h => RV_bool.2 h⟩ o0) fun g3 w3_ v3 hs hr => ?_)
 have hfr := hfr.ext hs
 subst hr
 refine EL_p (.bool (!y4)) (P_not rfl) rfl ?_
 refine EL_at (.bool (!y4)) rfl rfl ?_
 refine EL_nil (thn_n (E_ret ?_))
 obtain rfl := sinj h
 exact end1 rfl rfl (show _ = .bool (!y4) from rfl) ⟨_, hfr, rfl⟩
def f80 (x0 : PayPayList) (x1 : Int) : Option (Int) :=
 (f103 (((x0).PayList).Rates) x1 ((fun a0 a1 => f104 a0 a1))).bind fun y6 =>
 Option.bind (α := Int) (
  bif (!y6.2) then
   some ((w64 (y6.1 - (1 : Int))))
  else
   some (y6.1)
  ) fun o0 =>
 (idx (((x0).PayList).Rates) o0).bind fun u3 =>
 some ((u3).Rate)
theorem en80 : Enters Tryz.prog 80 := enters_of Tryz.func80 (by kernel_rfl) rfl
theorem wk80 {gI : Gh} {wI : World} {x0 : PayPayList} {x1 : Int} {up0 : Value} (rp0 : RV gI.m wI x0 up0) {r : Int} (h : f80 x0 x1 = some r) : Fn Tryz.prog 80 #[up0, .int .i64 (x1)] gI wI (fun _ _ v => v = .int .i64 (r)) := by
 unfold f80 at h
 refine fn_of_E Tryz.func80 rfl (Nat.le_of_ble_eq_true rfl) fun g0 hm hfr => ?_
 have rp0 : RV g0.m wI x0 up0 := hm ▸ rp0
 show E _ 26 none _ _ _ _ _
 refine E_seq (E_region (EL_do .plain rfl (D_box (g := g0) rfl rp0 fun g1 w1 p1 hs q1 => ?_)))
 have hfr := hfr.ext hs
 refine EL_at (.int .i64 (0)) rfl rfl ?_
 refine EL_nil (thn_n (E_seq (E_region (EL_p (fPtr p1 0) (P_fieldAddr at_117_0 rfl (PT.ptr q1)) rfl ?_))))
 have q2 := PT_field (part_PayPayList_0).1 q1
 refine EL_p (fPtr (fPtr p1 0) 0) (P_fieldAddr at_25_0 rfl (PT.ptr q2)) rfl ?_
 have q3 := PT_field (part_PayList_0).1 q2
 refine EL_do .plain rfl (D_load (g := g1) Tryz.isAgg22 Tryz.sizeOf22 rfl q3 fun v4 r4 => ?_)
 refine EL_mw (.int .i64 (x1)) rfl rfl ?_
 obtain ⟨y6, k8, h⟩ := bsome h
 refine EL_do .plain rfl (D_call (g := g1) (vs := [v4, .int .i64 (x1), .func (.func 104) #[] #[]]) en103 (.cons rfl (.cons rfl (.cons rfl .nil))) (wk103 r4 ⟨104, #[], #[], rfl, en104, fun g' w' hch a0 a1 b0 b1 r hu0 hu1 hr => by obtain rfl := RV_int.1 hu1; exact Fn.mono (wk104 hu0  hr) fun _ _ _ h => RV_int.2 h⟩ k8) fun g5 w5_ v5 hs hr => ?_)
 have hfr := hfr.ext hs
 have q1 := q1.ext hs
 obtain ⟨r8, v8, rfl, rfl, rfl⟩ := hr
 refine EL_mw (.tuple #[.int .i64 (y6.1), .bool (y6.2)]) rfl rfl ?_
 refine EL_p (.int .i64 (y6.1)) (P_extract rfl rfl) rfl ?_
 refine EL_p (.bool (y6.2)) (P_extract rfl rfl) rfl ?_
 refine EL_at (.int .i64 (y6.1)) rfl rfl ?_
 refine EL_at (.bool (y6.2)) rfl rfl ?_
 refine EL_nil (thn_n ?_)
 obtain ⟨o0, hx, h⟩ := bsome h
 refine E_join (fun e w => ∃ (g : Gh) , Fr gI wI g w ∧ e 2 = p1 ∧ PT g.m w (x0 : PayPayList) p1 ∧ e 5 = .int .i64 (o0)) (fun Q' hQ => ?_) (fun a9 w9 hR => ?_)
 ·replace h := hx
  clear hx
  refine E_seq (E_region (EL_mw (.bool (y6.2)) rfl rfl ?_))
  refine EL_p (.bool (!y6.2)) (P_not rfl) rfl ?_
  refine EL_nil (thn_n ?_)
  rcases csome h with ⟨hc8, h⟩ | ⟨hc8, h⟩
  ·refine E_ct hc8 rfl ?_
   refine E_region (EL_mw (.int .i64 (y6.1)) rfl rfl ?_)
   refine EL_in (.int .i64 ((w64 (y6.1 - (1 : Int))))) rfl rfl rfl rfl ?_
   refine EL_at (.int .i64 ((w64 (y6.1 - (1 : Int))))) rfl rfl ?_
   refine EL_nil ?_
   obtain rfl := sinj h
   exact hQ _ _ ⟨g5, hfr, rfl, q1, rfl⟩
  ·refine E_cf hc8 rfl ?_
   refine E_skip ?_
   obtain rfl := sinj h
   exact hQ _ _ ⟨g5, hfr, rfl, q1, rfl⟩
 ·clear hx
  obtain ⟨g9, hfr, m7, l5, g8⟩ := hR
  refine E_seq (E_region (EL_p (fPtr p1 0) (P_fieldAddr at_117_0 m7 (PT.ptr l5)) rfl ?_))
  have x5 := PT_field (part_PayPayList_0).1 l5
  refine EL_p (fPtr (fPtr p1 0) 0) (P_fieldAddr at_25_0 rfl (PT.ptr x5)) rfl ?_
  have l8 := PT_field (part_PayList_0).1 x5
  refine EL_do .plain rfl (D_load (g := g9) Tryz.isAgg22 Tryz.sizeOf22 rfl l8 fun i6 x6 => ?_)
  refine EL_mv g8 rfl ?_
  obtain ⟨u3, t5, h⟩ := bsome h
  refine EL_p (ePtr i6 o0 2) (P_indexAddr (α := PayRate) Tryz.underlying22 Tryz.sizeOf87 rfl x6 rfl t5) rfl ?_
  have i7 := PT_idx x6 t5
  refine EL_p (fPtr (ePtr i6 o0 2) 1) (P_fieldAddr at_87_1 rfl (PT.ptr i7)) rfl ?_
  have m8 := PT_field (part_PayRate_1).1 i7
  refine EL_do .plain rfl (D_load (g := g9) Tryz.isAgg3 Tryz.sizeOf3 rfl m8 fun d9 n8 => ?_)
  obtain rfl := RV_int.1 n8
  refine EL_at (.int .i64 ((u3).Rate)) rfl rfl ?_
  refine EL_nil (thn_n (E_ret ?_))
  obtain rfl := sinj h
  exact end1 rfl rfl (show _ = .int .i64 ((u3).Rate) from rfl) ⟨_, hfr, rfl⟩
def f102 (x0 : List Int) : Option (Bool) :=
 Option.bind (α := Bool) (
  (f116 x0).bind fun y9 =>
  bif y9 then
   (f111 x0).bind fun x5 =>
   (f117 x5).bind fun l5 =>
   some ((((Int.toNat l5 : Nat) : Int) == ((x0).length : Int)))
  else
   some (false)
  ) fun u3 =>
 some (u3)
theorem en102 : Enters Tryz.prog 102 := enters_of Tryz.func102 (by kernel_rfl) rfl
theorem wk102 {gI : Gh} {wI : World} {x0 : List Int} {up0 : Value} (rp0 : RV gI.m wI x0 up0) {r : Bool} (h : f102 x0 = some r) : Fn Tryz.prog 102 #[up0] gI wI (fun _ _ v => v = .bool (r)) := by
 unfold f102 at h
 refine fn_of_E Tryz.func102 rfl (Nat.le_of_ble_eq_true rfl) fun g0 hm hfr => ?_
 have rp0 : RV g0.m wI x0 up0 := hm ▸ rp0
 show E _ 14 none _ _ _ _ _
 refine E_seq (E_region (EL_at (.bool false) rfl rfl ?_))
 refine EL_nil (thn_n ?_)
 obtain ⟨u3, hx, h⟩ := bsome h
 refine E_join (fun e w => ∃ (g : Gh) , Fr gI wI g w ∧ e 2 = .bool (u3)) (fun Q' hQ => ?_) (fun m8 w15 hR => ?_)
 ·replace h := hx
  clear hx
  refine E_region (EL_mw up0 rfl rfl ?_)
  obtain ⟨y9, i7, h⟩ := bsome h
  refine EL_do .plain rfl (D_call (g := g0) (vs := [up0]) en116 (.cons rfl .nil) (wk116 rp0 i7) fun g8 w8_ v8 hs hr => ?_)
  have hfr := hfr.ext hs
  have rp0 := rp0.ext hs
  subst hr
  refine EL_mw (.bool (y9)) rfl rfl ?_
  rcases csome h with ⟨o0, h⟩ | ⟨o0, h⟩
  ·refine EL_y up0 (P_move rfl) rfl rfl o0 rfl ?_
   obtain ⟨x5, i6, h⟩ := bsome h
   refine EL_do (.yes2 rfl rfl o0) rfl (D_callG (g := g8) (vs := [up0]) en111 (.cons rfl .nil) (v111_0 (iO := 9007) rp0 i6) fun m7 n8 k8 hs hr => ?_)
   have hfr := hfr.ext hs
   have rp0 := rp0.ext hs
   have hm11 := hr
   obtain ⟨l5, x6, h⟩ := bsome h
   refine EL_do (.yes2 rfl rfl o0) rfl (D_callM (g := m7) (i := 9007) (vs := [k8]) en117 (.cons rfl .nil) (wk117 hm11 x6) fun l8 r8 a9 hs hr => ?_)
   obtain ⟨sa13, sc13, hsl13⟩ := hr
   subst hsl13
   have hfr := hfr.stp hs
   have rp0 := rp0.stp hs
   refine EL_y (.int .i64 ((Int.toNat l5 : Nat) : Int)) (P_lenSl Tryz.underlying23 rfl) rfl rfl o0 rfl ?_
   refine EL_y up0 (P_move rfl) rfl rfl o0 rfl ?_
   refine EL_y (.int .i64 ((x0).length : Int)) (P_len Tryz.underlying23 rfl rp0) rfl rfl o0 rfl ?_
   refine EL_y (.bool ((((Int.toNat l5 : Nat) : Int) == ((x0).length : Int)))) (P_int rfl rfl rfl) rfl rfl o0 rfl ?_
   refine EL_p (.bool ((((Int.toNat l5 : Nat) : Int) == ((x0).length : Int)))) (P_pick (b := y9) rfl (pick_t o0 rfl)) rfl ?_
   refine EL_at (.bool ((((Int.toNat l5 : Nat) : Int) == ((x0).length : Int)))) rfl rfl ?_
   refine EL_nil ?_
   obtain rfl := sinj h
   exact hQ _ _ ⟨l8, hfr, rfl⟩
  ·refine EL_s rfl rfl o0 rfl rfl ?_
   iterate 6 refine EL_s rfl rfl o0 rfl rfl ?_
   refine EL_p (.bool false) (P_pick (b := y9) rfl (pick_f o0 rfl)) rfl ?_
   refine EL_at (.bool false) rfl rfl ?_
   refine EL_nil ?_
   obtain rfl := sinj h
   exact hQ _ _ ⟨g8, hfr, rfl⟩
 ·clear hx
  obtain ⟨d9, hfr, t5⟩ := hR
  refine E_ret ?_
  obtain rfl := sinj h
  exact end1 rfl rfl (show _ = .bool (u3) from t5) ⟨_, hfr, rfl⟩
def f52 (x0 : PayPayList) : Option (Bool) :=
 jn (σ := Unit) (fun _ =>
  some ((decide (((((x0).PayList).Rates).length : Int) > (0 : Int))))
  ) fun tB =>
 lp (σ := Int × Int × Int) (fun vB (l8, m8, l5) =>
  bif (decide (l5 < ((((x0).PayList).Rates).length : Int))) then
   jn (σ := Int × Int) (fun (n8, r8) =>
    vB (n8, r8, (w64 (l5 + (1 : Int))))
    ) fun yB =>
   (idx (((x0).PayList).Rates) l5).bind fun t5 =>
   jn (σ := Unit) (fun _ =>
    yB ((w64 ((t5).From + (1 : Int))), (1000 : Int))
    ) fun zB =>
   Option.bind (α := Bool) (
    (f54 l8 m8 (([(t5).From] : List Int))).bind fun g8 =>
    bif (!g8) then
     some (true)
    else
     (f54 ((0 : Int)) ((10000 : Int)) (([(t5).Rate] : List Int))).bind fun k9 =>
     some ((!k9))
    ) fun i6 =>
   bif i6 then
    some (false)
   else
    zB ()
  else
   tB ()
  ) big ((0 : Int), (0 : Int), (0 : Int))
theorem en52 : Enters Tryz.prog 52 := enters_of Tryz.func52 (by kernel_rfl) rfl
theorem wk52 {gI : Gh} {wI : World} {x0 : PayPayList} {up0 : Value} (rp0 : RV gI.m wI x0 up0) {r : Bool} (h : f52 x0 = some r) : Fn Tryz.prog 52 #[up0] gI wI (fun _ _ v => v = .bool (r)) := by
 unfold f52 at h
 refine fn_of_E Tryz.func52 rfl (Nat.le_of_ble_eq_true rfl) fun g0 hm hfr => ?_
 have rp0 : RV g0.m wI x0 up0 := hm ▸ rp0
 show E _ 38 none _ _ _ _ _
 refine E_seq (E_region (EL_do .plain rfl (D_box (g := g0) rfl rp0 fun g1 w1 p1 hs q1 => ?_)))
 have hfr := hfr.ext hs
 refine EL_at (.bool false) rfl rfl ?_
 refine EL_nil (thn_n (E_seq (E_region (EL_at (.int .i64 (0)) rfl rfl ?_))))
 refine EL_at (.int .i64 (0)) rfl rfl ?_
 refine EL_nil (thn_n (E_joinC h (fun (s : Unit) e w => ∃ (g : Gh) , Fr gI wI g w ∧ e 1 = p1 ∧ PT g.m w (x0 : PayPayList) p1) (fun X125 tB mE h => ?_) ?_))
 ·refine E_seq (E_region (EL_p (fPtr p1 0) (P_fieldAddr at_117_0 rfl (PT.ptr q1)) rfl ?_))
  have cC := PT_field (part_PayPayList_0).1 q1
  refine EL_p (fPtr (fPtr p1 0) 0) (P_fieldAddr at_25_0 rfl (PT.ptr cC)) rfl ?_
  have yE := PT_field (part_PayList_0).1 cC
  refine EL_do .plain rfl (D_load (g := g1) Tryz.isAgg22 Tryz.sizeOf22 rfl yE fun x6 mC => ?_)
  refine EL_p (.int .i64 ((((x0).PayList).Rates).length : Int)) (P_len Tryz.underlying22 rfl mC) rfl ?_
  refine EL_mw (.int .i64 (0)) rfl rfl ?_
  refine EL_nil (thn_n (E_block ?_))
  refine E_lp h (fun (s : Int × Int × Int) e w => ∃ (g : Gh) , Fr gI wI g w ∧ e 1 = p1 ∧ PT g.m w (x0 : PayPayList) p1 ∧ e 3 = .int .i64 (s.1) ∧ e 4 = .int .i64 (s.2.1) ∧ e 9 = x6 ∧ RV g.m w (((x0).PayList).Rates : List PayRate) x6 ∧ e 10 = .int .i64 (((((x0).PayList).Rates).length : Int)) ∧ e 11 = .int .i64 (s.2.2)) ⟨g1, hfr, rfl, q1, rfl, rfl, rfl, mC, rfl, rfl⟩ (fun X129 vB oE => ?_)
  rintro ⟨l8, m8, l5⟩ jG zG ⟨bA, hfr, v8, u3, qC, rC, a9, o0, k8, i7⟩ h
  refine E_seq (E_region (EL_p (.bool ((decide (l5 < ((((x0).PayList).Rates).length : Int))))) (P_int i7 k8 rfl) rfl ?_))
  refine EL_nil (thn_n (E_seq ?_))
  rcases csome h with ⟨l9, h⟩ | ⟨l9, h⟩
  ·refine E_ct l9 rfl ?_
   refine E_skip (thn_n (E_joinC h (fun (s : Int × Int) e w => ∃ (g : Gh) , Fr gI wI g w ∧ e 1 = p1 ∧ PT g.m w (x0 : PayPayList) p1 ∧ e 3 = .int .i64 (s.1) ∧ e 4 = .int .i64 (s.2) ∧ e 9 = x6 ∧ RV g.m w (((x0).PayList).Rates : List PayRate) x6 ∧ e 10 = .int .i64 (((((x0).PayList).Rates).length : Int)) ∧ e 11 = .int .i64 (l5)) (fun X189 yB rE h => ?_) ?_))
   ·refine E_block ?_
    refine E_seq (E_region ?_)
    obtain ⟨t5, aB, h⟩ := bsome h
    refine EL_p (ePtr x6 l5 2) (P_indexAddr (α := PayRate) Tryz.underlying22 Tryz.sizeOf87 a9 o0 i7 aB) rfl ?_
    have zE := PT_idx o0 aB
    refine EL_do .plain rfl (D_load (g := bA) Tryz.isAgg87 Tryz.sizeOf87 rfl zE fun cF iA => ?_)
    refine EL_do .plain rfl (D_allocOc (g := bA) 2006 (⟨0, 0⟩ : PayRate) Tryz.zeroValue87 (fun m w => ⟨_, (rep_two rep_int rep_int), rfl⟩) fun dF aH m7 hs b193 cb => ?_)
    have hfr := hfr.stp hs
    have u3 := u3.stp hs
    have o0 := o0.stp hs
    have iA := iA.stp hs
    clear cb
    refine EL_do .plain rfl (D_storeOc (g := dF) (v := cF) Tryz.sizeOf87 rfl b193 rfl iA fun uC cH hs b194 cb => ?_)
    clear cb
    have hfr := hfr.stp hs
    have u3 := u3.stp hs
    have o0 := o0.stp hs
    refine EL_nil (thn_n (E_joinC h (fun (s : Unit) e w => ∃ (g : Gh) , Fr gI wI g w ∧ e 1 = p1 ∧ PT g.m w (x0 : PayPayList) p1 ∧ e 6 = m7 ∧ OB 2006 g w 87 (t5 : PayRate) m7 ∧ e 9 = x6 ∧ RV g.m w (((x0).PayList).Rates : List PayRate) x6 ∧ e 10 = .int .i64 (((((x0).PayList).Rates).length : Int)) ∧ e 11 = .int .i64 (l5)) (fun X219 zB uE h => ?_) ?_))
    ·obtain ⟨i6, hx, h⟩ := bsome h
     refine E_join (fun e w => ∃ (g : Gh) , Fr gI wI g w ∧ e 1 = p1 ∧ PT g.m w (x0 : PayPayList) p1 ∧ e 6 = m7 ∧ OB 2006 g w 87 (t5 : PayRate) m7 ∧ e 9 = x6 ∧ RV g.m w (((x0).PayList).Rates : List PayRate) x6 ∧ e 10 = .int .i64 (((((x0).PayList).Rates).length : Int)) ∧ e 11 = .int .i64 (l5) ∧ e 28 = .bool (i6)) (fun Q' hQ => ?_) (fun kG dH hR => ?_)
     ·replace h := hx
      clear hx
      refine E_region (EL_mv qC rfl ?_)
      refine EL_mv rC rfl ?_
      refine EL_p (fPtr m7 0) (P_fieldAddr at_87_0 rfl (OB.ptr b194)) rfl ?_
      refine EL_do .plain rfl (D_loadF (g := uC) part_PayRate_0.1 Tryz.isAgg3 Tryz.sizeOf3 rfl b194 fun gH eF => ?_)
      obtain rfl := RV_int.1 eF
      refine EL_do .plain rfl (D_buildSlice (g := uC) 3019 (xs := ([(t5).From] : List Int)) (vs := [.int .i64 ((t5).From)]) Tryz.underlying23 Tryz.sizeOf3 Tryz.zeroValue3 rfl rfl (.cons rfl .nil) (RVs.cons (RV_int.2 rfl) RVs.nil) rfl rfl fun rF iH sF hs o233 tF hxt hfl => ?_)
      have hfr := hfr.stp hs
      have u3 := u3.stp hs
      have o0 := o0.stp hs
      have b194 := b194.stp hs rfl
      obtain ⟨g8, vE, h⟩ := bsome h
      refine EL_do .plain rfl (D_call (g := rF) (vs := [.int .i64 (l8), .int .i64 (m8), sF]) en54 (.cons rfl (.cons rfl (.cons rfl .nil))) (wk54 tF vE) fun yA lG jH hs hr => ?_)
      have hfr := hfr.ext hs
      have u3 := u3.ext hs
      have o0 := o0.ext hs
      have b194 := b194.ext hs
      subst hr
      refine EL_p (.bool (!g8)) (P_not rfl) rfl ?_
      refine EL_mw (.bool (!g8)) rfl rfl ?_
      rcases csome h with ⟨x5, h⟩ | ⟨x5, h⟩
      ·refine EL_s rfl rfl x5 rfl rfl ?_
       iterate 4 refine EL_s rfl rfl x5 rfl rfl ?_
       refine EL_p (.bool true) (P_pick (b := (!g8)) rfl (pick_t x5 rfl)) rfl ?_
       refine EL_nil ?_
       obtain rfl := sinj h
       exact hQ _ _ ⟨yA, hfr, v8, u3, rfl, b194, a9, o0, k8, i7, rfl⟩
      ·refine EL_y (fPtr m7 1) (P_fieldAddr at_87_1 rfl (OB.ptr b194)) rfl rfl x5 rfl ?_
       refine EL_do (.yes2 rfl rfl x5) rfl (D_loadF (g := yA) part_PayRate_1.1 Tryz.isAgg3 Tryz.sizeOf3 rfl b194 fun kH uF => ?_)
       obtain rfl := RV_int.1 uF
       refine EL_do (.yes2 rfl rfl x5) rfl (D_buildSlice (g := yA) 3025 (xs := ([(t5).Rate] : List Int)) (vs := [.int .i64 ((t5).Rate)]) Tryz.underlying23 Tryz.sizeOf3 Tryz.zeroValue3 rfl rfl (.cons rfl .nil) (RVs.cons (RV_int.2 rfl) RVs.nil) rfl rfl fun vF lH xF hs o239 yF hxt hfl => ?_)
       have hfr := hfr.stp hs
       have u3 := u3.stp hs
       have o0 := o0.stp hs
       have b194 := b194.stp hs rfl
       obtain ⟨k9, xE, h⟩ := bsome h
       refine EL_do (.yes2 rfl rfl x5) rfl (D_call (g := vF) (vs := [.int .i64 (0), .int .i64 (10000), xF]) en54 (.cons rfl (.cons rfl (.cons rfl .nil))) (wk54 yF xE) fun aG mG mH hs hr => ?_)
       have hfr := hfr.ext hs
       have u3 := u3.ext hs
       have o0 := o0.ext hs
       have b194 := b194.ext hs
       subst hr
       refine EL_y (.bool (!k9)) (P_not rfl) rfl rfl x5 rfl ?_
       refine EL_p (.bool (!k9)) (P_pick (b := (!g8)) rfl (pick_f x5 rfl)) rfl ?_
       refine EL_nil ?_
       obtain rfl := sinj h
       exact hQ _ _ ⟨aG, hfr, v8, u3, rfl, b194, a9, o0, k8, i7, rfl⟩
     ·clear hx
      obtain ⟨bG, hfr, vC, aD, bD, cD, eD, iD, dB, iB, d9⟩ := hR
      rcases csome h with ⟨n9, h⟩ | ⟨n9, h⟩
      ·refine E_cond_true (Eq.trans (show ev _ _ = .bool (i6) from d9) (congrArg Value.bool n9)) ?_
       refine E_seq (E_region (EL_at (.bool false) rfl rfl ?_))
       refine EL_nil (thn_n (E_ret (thn_r ?_)))
       refine blk_r ?_
       refine thn_r ?_
       refine thn_r ?_
       refine blk_r ?_
       refine thn_r ?_
       obtain rfl := sinj h
       exact end1 rfl rfl (show _ = .bool false from rfl) ⟨_, hfr, rfl⟩
      ·refine E_cond_false (Eq.trans (show ev _ _ = .bool (i6) from d9) (congrArg Value.bool n9)) ?_
       exact E_skip (thn_n (uE () _ _ ⟨bG, hfr, vC, aD, bD, cD, eD, iD, dB, iB⟩ h))
    ·rintro _ sG nH ⟨jD, hfr, lD, nD, oD, u9, sD, tD, lB, mB⟩ h
     refine E_region (EL_p (fPtr m7 0) (P_fieldAddr at_87_0 oD (OB.ptr u9)) rfl ?_)
     refine EL_do .plain rfl (D_loadF (g := jD) part_PayRate_0.1 Tryz.isAgg3 Tryz.sizeOf3 rfl u9 fun oH cG => ?_)
     obtain rfl := RV_int.1 cG
     refine EL_in (.int .i64 ((w64 ((t5).From + (1 : Int))))) rfl rfl rfl rfl ?_
     refine EL_at (.int .i64 ((w64 ((t5).From + (1 : Int))))) rfl rfl ?_
     refine EL_at (.int .i64 (1000)) rfl rfl ?_
     exact EL_nil (blk_n (thn_n (rE ((w64 ((t5).From + (1 : Int))), (1000 : Int)) _ _ ⟨jD, hfr, lD, nD, rfl, rfl, sD, tD, lB, mB⟩ h)))
   ·rintro ⟨n8, r8⟩ xG pH ⟨eG, hfr, uD, xD, yD, zD, aE, bE, nB, oB⟩ h
    refine E_region (EL_in (.int .i64 ((w64 (l5 + (1 : Int))))) oB rfl rfl rfl ?_)
    refine EL_mw (.int .i64 ((w64 (l5 + (1 : Int))))) rfl rfl ?_
    exact EL_nil (thn_n (oE (n8, r8, (w64 (l5 + (1 : Int)))) _ _ ⟨eG, hfr, uD, xD, yD, zD, aE, bE, nB, rfl⟩ h))
  ·refine E_cf l9 rfl ?_
   refine E_exit ?_
   refine thn_e ?_
   refine thn_e ?_
   refine blk_hit ?_
   exact thn_n (mE () _ _ ⟨bA, hfr, v8, u3⟩ h)
 ·rintro _ yG qH ⟨gG, hfr, iE, y9⟩ h
  refine E_seq (E_region (EL_p (fPtr p1 0) (P_fieldAddr at_117_0 iE (PT.ptr y9)) rfl ?_))
  have lE := PT_field (part_PayPayList_0).1 y9
  refine EL_p (fPtr (fPtr p1 0) 0) (P_fieldAddr at_25_0 rfl (PT.ptr lE)) rfl ?_
  have hG := PT_field (part_PayList_0).1 lE
  refine EL_do .plain rfl (D_load (g := gG) Tryz.isAgg22 Tryz.sizeOf22 rfl hG fun sH iG => ?_)
  refine EL_p (.int .i64 ((((x0).PayList).Rates).length : Int)) (P_len Tryz.underlying22 rfl iG) rfl ?_
  refine EL_p (.bool ((decide (((((x0).PayList).Rates).length : Int) > (0 : Int))))) (P_int rfl rfl rfl) rfl ?_
  refine EL_p (.bool ((decide (((((x0).PayList).Rates).length : Int) > (0 : Int))))) (P_assign rfl) rfl ?_
  refine EL_nil (thn_n (E_ret ?_))
  obtain rfl := sinj h
  exact end1 rfl rfl (show _ = .bool ((decide (((((x0).PayList).Rates).length : Int) > (0 : Int)))) from rfl) ⟨_, hfr, rfl⟩
def f53 (x0 : List Int) : Option (Bool) :=
 (f54 ((0 : Int)) ((1000 : Int)) x0).bind fun y2 =>
 some (y2)
theorem en53 : Enters Tryz.prog 53 := enters_of Tryz.func53 (by kernel_rfl) rfl
theorem wk53 {gI : Gh} {wI : World} {x0 : List Int} {up0 : Value} (rp0 : RV gI.m wI x0 up0) {r : Bool} (h : f53 x0 = some r) : Fn Tryz.prog 53 #[up0] gI wI (fun _ _ v => v = .bool (r)) := by
 unfold f53 at h
 refine fn_of_E Tryz.func53 rfl (Nat.le_of_ble_eq_true rfl) fun g0 hm hfr => ?_
 have rp0 : RV g0.m wI x0 up0 := hm ▸ rp0
 show E _ 5 none _ _ _ _ _
 refine E_seq (E_region (EL_at (.bool false) rfl rfl ?_))
 refine EL_nil (thn_n (E_seq (E_region (EL_mw up0 rfl rfl ?_))))
 obtain ⟨y2, hy2, h⟩ := bsome h
 refine EL_do .plain rfl (D_call (g := g0) (vs := [.int .i64 (0), .int .i64 (1000), up0]) en54 (.cons rfl (.cons rfl (.cons rfl .nil))) (wk54 rp0 hy2) fun g1 w1_ v1 hs hr => ?_)
 have hfr := hfr.ext hs
 subst hr
 refine EL_at (.bool (y2)) rfl rfl ?_
 refine EL_nil (thn_n (E_ret ?_))
 obtain rfl := sinj h
 exact end1 rfl rfl (show _ = .bool (y2) from rfl) ⟨_, hfr, rfl⟩
def f56 (x0 : PayPayList) (x1 : PayPiece) : Option (Int) :=
 Option.bind (α := Int) (
  lp (σ := Int × Int) (fun zB (u3, o0) =>
   bif (decide (o0 < (((x1).Extras).length : Int))) then
    Option.bind (α := Int) (
     (idx ((x1).Extras) o0).bind fun k8 =>
     (idx (((x0).PayList).Extras) k8).bind fun a9 =>
     some ((w64 (u3 + a9)))
     ) fun t5 =>
    zB (t5, (w64 (o0 + (1 : Int))))
   else
    some (u3)
   ) big ((1000 : Int), (0 : Int))
  ) fun l5 =>
 (f80 x0 ((x1).Dense)).bind fun i7 =>
 (quo64 (w64 ((w64 ((x1).Picks * i7)) * l5)) (1000000 : Int)).bind fun l8 =>
 some (l8)
theorem en56 : Enters Tryz.prog 56 := enters_of Tryz.func56 (by kernel_rfl) rfl
theorem wk56 {gI : Gh} {wI : World} {x0 : PayPayList} {x1 : PayPiece} {up0 : Value} (rp0 : RV gI.m wI x0 up0) {up1 : Value} (rp1 : RV gI.m wI x1 up1) {r : Int} (h : f56 x0 x1 = some r) : Fn Tryz.prog 56 #[up0, up1] gI wI (fun _ _ v => v = .int .i64 (r)) := by
 unfold f56 at h
 refine fn_of_E Tryz.func56 rfl (Nat.le_of_ble_eq_true rfl) fun g0 hm hfr => ?_
 have rp0 : RV g0.m wI x0 up0 := hm ▸ rp0
 have rp1 : RV g0.m wI x1 up1 := hm ▸ rp1
 show E _ 34 none _ _ _ _ _
 refine E_seq (E_region (EL_do .plain rfl (D_box (g := g0) rfl rp0 fun g1 w1 p1 hs q1 => ?_)))
 have hfr := hfr.ext hs
 have rp1 := rp1.ext hs
 refine EL_do .plain rfl (D_box (g := g1) rfl rp1 fun g2 w2 p2 hs q2 => ?_)
 have hfr := hfr.ext hs
 have q1 := q1.ext hs
 refine EL_at (.int .i64 (0)) rfl rfl ?_
 refine EL_nil (thn_n (E_seq (E_region (EL_at (.int .i64 (1000)) rfl rfl ?_))))
 refine EL_nil (thn_n ?_)
 obtain ⟨l5, hx, h⟩ := bsome h
 refine E_join (fun e w => ∃ (g : Gh) , Fr gI wI g w ∧ e 2 = p1 ∧ PT g.m w (x0 : PayPayList) p1 ∧ e 3 = p2 ∧ PT g.m w (x1 : PayPiece) p2 ∧ e 5 = .int .i64 (l5)) (fun Q' hQ => ?_) (fun lE rE hR => ?_)
 ·replace h := hx
  clear hx
  refine E_seq (E_region (EL_p (fPtr p2 3) (P_fieldAddr at_27_3 rfl (PT.ptr q2)) rfl ?_))
  have iD := PT_field (part_PayPiece_3).1 q2
  refine EL_do .plain rfl (D_load (g := g2) Tryz.isAgg23 Tryz.sizeOf23 rfl iD fun m8 cC => ?_)
  refine EL_p (.int .i64 (((x1).Extras).length : Int)) (P_len Tryz.underlying23 rfl cC) rfl ?_
  refine EL_mw (.int .i64 (0)) rfl rfl ?_
  refine EL_nil (thn_n (E_block ?_))
  refine E_lp h (fun (s : Int × Int) e w => ∃ (g : Gh) , Fr gI wI g w ∧ e 2 = p1 ∧ PT g.m w (x0 : PayPayList) p1 ∧ e 3 = p2 ∧ PT g.m w (x1 : PayPiece) p2 ∧ e 5 = .int .i64 (s.1) ∧ e 9 = m8 ∧ RV g.m w ((x1).Extras : List Int) m8 ∧ e 10 = .int .i64 ((((x1).Extras).length : Int)) ∧ e 11 = .int .i64 (s.2)) ⟨g2, hfr, rfl, q1, rfl, q2, rfl, rfl, cC, rfl, rfl⟩ (fun X29 zB uC => ?_)
  rintro ⟨u3, o0⟩ mE uE ⟨n8, hfr, m7, x5, d9, k9, l9, n9, g8, r8, x6⟩ h
  refine E_seq (E_region (EL_p (.bool ((decide (o0 < (((x1).Extras).length : Int))))) (P_int x6 r8 rfl) rfl ?_))
  refine EL_nil (thn_n (E_seq ?_))
  rcases csome h with ⟨v8, h⟩ | ⟨v8, h⟩
  ·refine E_ct v8 rfl ?_
   refine E_skip (thn_n ?_)
   obtain ⟨t5, hx, h⟩ := bsome h
   refine E_join (fun e w => ∃ (g : Gh) , Fr gI wI g w ∧ e 2 = p1 ∧ PT g.m w (x0 : PayPayList) p1 ∧ e 3 = p2 ∧ PT g.m w (x1 : PayPiece) p2 ∧ e 5 = .int .i64 (t5) ∧ e 9 = m8 ∧ RV g.m w ((x1).Extras : List Int) m8 ∧ e 10 = .int .i64 ((((x1).Extras).length : Int)) ∧ e 11 = .int .i64 (o0)) (fun Q' hQ => ?_) (fun oE vE hR => ?_)
   ·replace h := hx
    clear hx
    refine E_block ?_
    refine E_seq (E_region ?_)
    obtain ⟨k8, y9, h⟩ := bsome h
    refine EL_p (ePtr m8 o0 1) (P_indexAddr (α := Int) Tryz.underlying23 Tryz.sizeOf3 n9 g8 x6 y9) rfl ?_
    have jD := PT_idx g8 y9
    refine EL_do .plain rfl (D_load (g := n8) Tryz.isAgg3 Tryz.sizeOf3 rfl jD fun xE lD => ?_)
    obtain rfl := RV_int.1 lD
    refine EL_at (.int .i64 (k8)) rfl rfl ?_
    refine EL_nil (thn_n (E_region (EL_mv l9 rfl ?_)))
    refine EL_p (fPtr p1 0) (P_fieldAddr at_117_0 m7 (PT.ptr x5)) rfl ?_
    have mC := PT_field (part_PayPayList_0).1 x5
    refine EL_p (fPtr (fPtr p1 0) 1) (P_fieldAddr at_25_1 rfl (PT.ptr mC)) rfl ?_
    have nD := PT_field (part_PayList_1).1 mC
    refine EL_do .plain rfl (D_load (g := n8) Tryz.isAgg23 Tryz.sizeOf23 rfl nD fun oD qC => ?_)
    refine EL_mw (.int .i64 (k8)) rfl rfl ?_
    obtain ⟨a9, bA, h⟩ := bsome h
    refine EL_p (ePtr oD k8 1) (P_indexAddr (α := Int) Tryz.underlying23 Tryz.sizeOf3 rfl qC rfl bA) rfl ?_
    have sD := PT_idx qC bA
    refine EL_do .plain rfl (D_load (g := n8) Tryz.isAgg3 Tryz.sizeOf3 rfl sD fun yE tD => ?_)
    obtain rfl := RV_int.1 tD
    refine EL_in (.int .i64 ((w64 (u3 + a9)))) rfl rfl rfl rfl ?_
    refine EL_at (.int .i64 ((w64 (u3 + a9)))) rfl rfl ?_
    refine EL_nil (blk_n ?_)
    obtain rfl := sinj h
    exact hQ _ _ ⟨n8, hfr, m7, x5, d9, k9, rfl, n9, g8, r8, x6⟩
   ·clear hx
    obtain ⟨uD, hfr, aB, dB, iB, lB, mB, nB, oB, iA, yA⟩ := hR
    refine E_region (EL_in (.int .i64 ((w64 (o0 + (1 : Int))))) yA rfl rfl rfl ?_)
    refine EL_mw (.int .i64 ((w64 (o0 + (1 : Int))))) rfl rfl ?_
    exact EL_nil (thn_n (uC (t5, (w64 (o0 + (1 : Int)))) _ _ ⟨uD, hfr, aB, dB, iB, lB, mB, nB, oB, iA, rfl⟩ h))
  ·refine E_cf v8 rfl ?_
   refine E_exit ?_
   refine thn_e ?_
   refine thn_e ?_
   refine blk_hit ?_
   obtain rfl := sinj h
   exact hQ _ _ ⟨n8, hfr, m7, x5, d9, k9, l9⟩
 ·clear hx
  obtain ⟨xD, hfr, tB, vB, u9, i6, yB⟩ := hR
  refine E_seq ?_
  have yD := PT_field (part_PayPiece_2).1 i6
  refine L_load (x := .tmp 24) Tryz.isAgg3 Tryz.sizeOf3 yD fun zE zD vC => ?_
  obtain rfl := RV_int.1 zD
  refine L_load (x := .tmp 2) Tryz.isAgg117 Tryz.sizeOf117 vB fun rC aE aD => ?_
  have bE := PT_field (part_PayPiece_1).1 i6
  refine L_load (x := .tmp 27) Tryz.isAgg3 Tryz.sizeOf3 bE fun cF iE bD => ?_
  obtain rfl := RV_int.1 iE
  obtain ⟨i7, cD, h⟩ := bsome h
  obtain ⟨l8, eD, h⟩ := bsome h
  refine E_drawL (g := xD) (n := 11) [(5, (fun v g w => v = .int .i64 (i7)))] [0, 1, 2, 3, 4, 5, 6, 7, 8, 9, 10] rfl mixed (by kernel_rfl) (⟨fun _ => up_eq _, trivial⟩) ?_
  refine L_p (fPtr p2 2) rfl rfl (P_fieldAddr at_27_2 u9 (PT.ptr i6)) ?_
  refine L_ld (c := .int .i64 ((x1).Picks)) rfl rfl .plain (fun _ _ h => h.ch) vC rfl ?_
  refine L_ld (c := rC) rfl rfl .plain (fun _ _ h => h.ch) aD tB ?_
  refine L_p (fPtr p2 1) rfl rfl (P_fieldAddr at_27_1 u9 (PT.ptr i6)) ?_
  refine L_ld (c := .int .i64 ((x1).Dense)) rfl rfl .plain (fun _ _ h => h.ch) bD rfl ?_
  refine L_do (φ := fun v g w => v = .int .i64 (i7)) rfl rfl .plain (fun g w hd => D_call (g := g) (vs := [rC, .int .i64 ((x1).Dense)]) en80 (.cons rfl (.cons rfl .nil)) (wk80 (aE.ext hd.1) cD) fun g' w' v hs hr => ⟨g', hs, hr⟩) (fun dF hv => ?_)
  obtain ⟨_, _, _, rfl⟩ := hv
  refine L_p (.int .i64 ((w64 ((x1).Picks * i7)))) rfl rfl (P_int rfl rfl rfl) ?_
  refine L_p (.int .i64 (l5)) rfl rfl (P_move yB) ?_
  refine L_p (.int .i64 ((w64 ((w64 ((x1).Picks * i7)) * l5)))) rfl rfl (P_int rfl rfl rfl) ?_
  refine L_p (.int .i64 (l8)) rfl rfl (P_int rfl rfl (congrArg (Option.map (Value.int .i64)) eD)) ?_
  refine L_p (.int .i64 (l8)) rfl rfl (P_assign rfl) ?_
  refine L_nl fun eF rF hs => ?_
  have hfr := hfr.ext hs
  clear hs
  refine EL_nil (thn_n (E_ret ?_))
  obtain rfl := sinj h
  exact end1 rfl rfl (show _ = .int .i64 (l8) from rfl) ⟨_, hfr, rfl⟩
def f58 (x0 : PayPayList) (x1 : PayPiece) (x2 : Int) : Option (Int) :=
 (f56 x0 x1).bind fun y6 =>
 (f57 x0 y6 x2).bind fun y9 =>
 some ((w64 (y6 - y9)))
theorem en58 : Enters Tryz.prog 58 := enters_of Tryz.func58 (by kernel_rfl) rfl
theorem wk58 {gI : Gh} {wI : World} {x0 : PayPayList} {x1 : PayPiece} {x2 : Int} {up0 : Value} (rp0 : RV gI.m wI x0 up0) {up1 : Value} (rp1 : RV gI.m wI x1 up1) {r : Int} (h : f58 x0 x1 x2 = some r) : Fn Tryz.prog 58 #[up0, up1, .int .i64 (x2)] gI wI (fun _ _ v => v = .int .i64 (r)) := by
 unfold f58 at h
 refine fn_of_E Tryz.func58 rfl (Nat.le_of_ble_eq_true rfl) fun g0 hm hfr => ?_
 have rp0 : RV g0.m wI x0 up0 := hm ▸ rp0
 have rp1 : RV g0.m wI x1 up1 := hm ▸ rp1
 show E _ 17 none _ _ _ _ _
 refine E_seq (E_region (EL_do .plain rfl (D_box (g := g0) rfl rp0 fun g1 w1 p1 hs q1 => ?_)))
 have hfr := hfr.ext hs
 have rp1 := rp1.ext hs
 refine EL_do .plain rfl (D_box (g := g1) rfl rp1 fun g2 w2 p2 hs q2 => ?_)
 have hfr := hfr.ext hs
 have q1 := q1.ext hs
 refine EL_at (.int .i64 (0)) rfl rfl ?_
 refine EL_nil (thn_n (E_seq (E_region (EL_do .plain rfl (D_load (g := g2) Tryz.isAgg117 Tryz.sizeOf117 rfl q1 fun v3 r3 => ?_)))))
 refine EL_do .plain rfl (D_load (g := g2) Tryz.isAgg27 Tryz.sizeOf27 rfl q2 fun v4 r4 => ?_)
 obtain ⟨y6, o0, h⟩ := bsome h
 refine EL_do .plain rfl (D_call (g := g2) (vs := [v3, v4]) en56 (.cons rfl (.cons rfl .nil)) (wk56 r3 r4 o0) fun g5 w5_ v5 hs hr => ?_)
 have hfr := hfr.ext hs
 have q1 := q1.ext hs
 subst hr
 refine EL_at (.int .i64 (y6)) rfl rfl ?_
 refine EL_nil (thn_n (E_seq (E_region (EL_mw (.int .i64 (y6)) rfl rfl ?_))))
 refine EL_do .plain rfl (D_load (g := g5) Tryz.isAgg117 Tryz.sizeOf117 rfl q1 fun v7 r7 => ?_)
 refine EL_mw (.int .i64 (y6)) rfl rfl ?_
 refine EL_mw (.int .i64 (x2)) rfl rfl ?_
 obtain ⟨y9, u3, h⟩ := bsome h
 refine EL_do .plain rfl (D_call (g := g5) (vs := [v7, .int .i64 (y6), .int .i64 (x2)]) en57 (.cons rfl (.cons rfl (.cons rfl .nil))) (wk57 r7 u3) fun g8 w8_ v8 hs hr => ?_)
 have hfr := hfr.ext hs
 subst hr
 refine EL_in (.int .i64 ((w64 (y6 - y9)))) rfl rfl rfl rfl ?_
 refine EL_at (.int .i64 ((w64 (y6 - y9)))) rfl rfl ?_
 refine EL_nil (thn_n (E_ret ?_))
 obtain rfl := sinj h
 exact end1 rfl rfl (show _ = .int .i64 ((w64 (y6 - y9))) from rfl) ⟨_, hfr, rfl⟩
def f79 (x0 : PayPayList) (x1 : PayPiece) : Option (Int) :=
 jn (σ := Unit) (fun _ =>
  some ((0 : Int))
  ) fun dB =>
 Option.bind (α := Bool) (
  (f54 ((0 : Int)) ((50 : Int)) (([(x1).Weaver] : List Int))).bind fun k8 =>
  bif (!k8) then
   some ((!k8))
  else
   (f54 ((0 : Int)) ((1000 : Int)) (([(x1).Dense] : List Int))).bind fun l8 =>
   bif (!l8) then
    some ((!l8))
   else
    (f54 ((0 : Int)) ((1000000 : Int)) (([(x1).Picks] : List Int))).bind fun l5 =>
    bif (!l5) then
     some ((!l5))
    else
     (f54 ((0 : Int)) ((100 : Int)) (([(x1).Faults] : List Int))).bind fun t5 =>
     some ((!t5))
  ) fun u3 =>
 bif u3 then
  some ((2 : Int))
 else
  (f54 ((0 : Int)) ((w64 (((((x0).PayList).Extras).length : Int) - (1 : Int)))) ((x1).Extras)).bind fun x5 =>
  bif (!x5) then
   some ((7 : Int))
  else
   (f102 ((x1).Extras)).bind fun y125 =>
   bif (!y125) then
    some ((4 : Int))
   else
    dB ()
theorem en79 : Enters Tryz.prog 79 := enters_of Tryz.func79 (by kernel_rfl) rfl
theorem wk79 {gI : Gh} {wI : World} {x0 : PayPayList} {x1 : PayPiece} {up0 : Value} (rp0 : RV gI.m wI x0 up0) {up1 : Value} (rp1 : RV gI.m wI x1 up1) {r : Int} (h : f79 x0 x1 = some r) : Fn Tryz.prog 79 #[up0, up1] gI wI (fun _ _ v => v = .int .i64 (r)) := by
 unfold f79 at h
 refine fn_of_E Tryz.func79 rfl (Nat.le_of_ble_eq_true rfl) fun g0 hm hfr => ?_
 have rp0 : RV g0.m wI x0 up0 := hm ▸ rp0
 have rp1 : RV g0.m wI x1 up1 := hm ▸ rp1
 show E _ 41 none _ _ _ _ _
 refine E_seq (E_region (EL_do .plain rfl (D_box (g := g0) rfl rp0 fun g1 w1 p1 hs q1 => ?_)))
 have hfr := hfr.ext hs
 have rp1 := rp1.ext hs
 refine EL_do .plain rfl (D_box (g := g1) rfl rp1 fun g2 w2 p2 hs q2 => ?_)
 have hfr := hfr.ext hs
 have q1 := q1.ext hs
 refine EL_at (.int .i64 (0)) rfl rfl ?_
 refine EL_nil (thn_n (E_joinC h (fun (s : Unit) e w => ∃ (g : Gh) , Fr gI wI g w) (fun X65 dB iB h => ?_) ?_))
 ·refine E_block ?_
  obtain ⟨u3, hx, h⟩ := bsome h
  refine E_join (fun e w => ∃ (g : Gh) , Fr gI wI g w ∧ e 2 = p1 ∧ PT g.m w (x0 : PayPayList) p1 ∧ e 3 = p2 ∧ PT g.m w (x1 : PayPiece) p2 ∧ e 5 = .bool (u3)) (fun Q' hQ => ?_) (fun lE xE hR => ?_)
  ·replace h := hx
   clear hx
   refine E_seq (E_region (EL_p (fPtr p2 0) (P_fieldAddr at_27_0 rfl (PT.ptr q2)) rfl ?_))
   have oD := PT_field (part_PayPiece_0).1 q2
   refine EL_do .plain rfl (D_load (g := g2) Tryz.isAgg3 Tryz.sizeOf3 rfl oD fun bG sD => ?_)
   obtain rfl := RV_int.1 sD
   refine EL_do .plain rfl (D_buildSlice (g := g2) 3008 (xs := ([(x1).Weaver] : List Int)) (vs := [.int .i64 ((x1).Weaver)]) Tryz.underlying23 Tryz.sizeOf3 Tryz.zeroValue3 rfl rfl (.cons rfl .nil) (RVs.cons (RV_int.2 rfl) RVs.nil) rfl rfl fun tD cG uD hs o91 xD hxt hfl => ?_)
   have hfr := hfr.stp hs
   have q1 := q1.stp hs
   have q2 := q2.stp hs
   obtain ⟨k8, lB, h⟩ := bsome h
   refine EL_do .plain rfl (D_call (g := tD) (vs := [.int .i64 (0), .int .i64 (50), uD]) en54 (.cons rfl (.cons rfl (.cons rfl .nil))) (wk54 xD lB) fun k9 yE eG hs hr => ?_)
   have hfr := hfr.ext hs
   have q1 := q1.ext hs
   have q2 := q2.ext hs
   subst hr
   refine EL_p (.bool (!k8)) (P_not rfl) rfl ?_
   refine EL_at (.bool (!k8)) rfl rfl ?_
   refine EL_nil (thn_n ?_)
   rcases csome h with ⟨v8, h⟩ | ⟨v8, h⟩
   ·refine E_ct v8 rfl ?_
    refine E_skip ?_
    obtain rfl := sinj h
    exact hQ _ _ ⟨k9, hfr, rfl, q1, rfl, q2, rfl⟩
   ·refine E_cf v8 rfl ?_
    refine E_seq (E_region (EL_p (fPtr p2 1) (P_fieldAddr at_27_1 rfl (PT.ptr q2)) rfl ?_))
    have yD := PT_field (part_PayPiece_1).1 q2
    refine EL_do .plain rfl (D_load (g := k9) Tryz.isAgg3 Tryz.sizeOf3 rfl yD fun gG zD => ?_)
    obtain rfl := RV_int.1 zD
    refine EL_do .plain rfl (D_buildSlice (g := k9) 3013 (xs := ([(x1).Dense] : List Int)) (vs := [.int .i64 ((x1).Dense)]) Tryz.underlying23 Tryz.sizeOf3 Tryz.zeroValue3 rfl rfl (.cons rfl .nil) (RVs.cons (RV_int.2 rfl) RVs.nil) rfl rfl fun aE hG bE hs o97 iE hxt hfl => ?_)
    have hfr := hfr.stp hs
    have q1 := q1.stp hs
    have q2 := q2.stp hs
    obtain ⟨l8, mB, h⟩ := bsome h
    refine EL_do .plain rfl (D_call (g := aE) (vs := [.int .i64 (0), .int .i64 (1000), bE]) en54 (.cons rfl (.cons rfl (.cons rfl .nil))) (wk54 iE mB) fun l9 zE iG hs hr => ?_)
    have hfr := hfr.ext hs
    have q1 := q1.ext hs
    have q2 := q2.ext hs
    subst hr
    refine EL_p (.bool (!l8)) (P_not rfl) rfl ?_
    refine EL_at (.bool (!l8)) rfl rfl ?_
    refine EL_nil (thn_n ?_)
    rcases csome h with ⟨i6, h⟩ | ⟨i6, h⟩
    ·refine E_ct i6 rfl ?_
     refine E_skip ?_
     obtain rfl := sinj h
     exact hQ _ _ ⟨l9, hfr, rfl, q1, rfl, q2, rfl⟩
    ·refine E_cf i6 rfl ?_
     refine E_seq (E_region (EL_p (fPtr p2 2) (P_fieldAddr at_27_2 rfl (PT.ptr q2)) rfl ?_))
     have nB := PT_field (part_PayPiece_2).1 q2
     refine EL_do .plain rfl (D_load (g := l9) Tryz.isAgg3 Tryz.sizeOf3 rfl nB fun cF oB => ?_)
     obtain rfl := RV_int.1 oB
     refine EL_do .plain rfl (D_buildSlice (g := l9) 3018 (xs := ([(x1).Picks] : List Int)) (vs := [.int .i64 ((x1).Picks)]) Tryz.underlying23 Tryz.sizeOf3 Tryz.zeroValue3 rfl rfl (.cons rfl .nil) (RVs.cons (RV_int.2 rfl) RVs.nil) rfl rfl fun tB dF vB hs o103 yB hxt hfl => ?_)
     have hfr := hfr.stp hs
     have q1 := q1.stp hs
     have q2 := q2.stp hs
     obtain ⟨l5, bA, h⟩ := bsome h
     refine EL_do .plain rfl (D_call (g := tB) (vs := [.int .i64 (0), .int .i64 (1000000), vB]) en54 (.cons rfl (.cons rfl (.cons rfl .nil))) (wk54 yB bA) fun a9 mE eF hs hr => ?_)
     have hfr := hfr.ext hs
     have q1 := q1.ext hs
     have q2 := q2.ext hs
     subst hr
     refine EL_p (.bool (!l5)) (P_not rfl) rfl ?_
     refine EL_at (.bool (!l5)) rfl rfl ?_
     refine EL_nil (thn_n ?_)
     rcases csome h with ⟨x6, h⟩ | ⟨x6, h⟩
     ·refine E_ct x6 rfl ?_
      refine E_skip ?_
      obtain rfl := sinj h
      exact hQ _ _ ⟨a9, hfr, rfl, q1, rfl, q2, rfl⟩
     ·refine E_cf x6 rfl ?_
      refine E_region (EL_p (fPtr p2 4) (P_fieldAddr at_27_4 rfl (PT.ptr q2)) rfl ?_)
      have zB := PT_field (part_PayPiece_4).1 q2
      refine EL_do .plain rfl (D_load (g := a9) Tryz.isAgg3 Tryz.sizeOf3 rfl zB fun rF cC => ?_)
      obtain rfl := RV_int.1 cC
      refine EL_do .plain rfl (D_buildSlice (g := a9) 3023 (xs := ([(x1).Faults] : List Int)) (vs := [.int .i64 ((x1).Faults)]) Tryz.underlying23 Tryz.sizeOf3 Tryz.zeroValue3 rfl rfl (.cons rfl .nil) (RVs.cons (RV_int.2 rfl) RVs.nil) rfl rfl fun mC sF qC hs o109 rC hxt hfl => ?_)
      have hfr := hfr.stp hs
      have q1 := q1.stp hs
      have q2 := q2.stp hs
      obtain ⟨t5, iA, h⟩ := bsome h
      refine EL_do .plain rfl (D_call (g := mC) (vs := [.int .i64 (0), .int .i64 (100), qC]) en54 (.cons rfl (.cons rfl (.cons rfl .nil))) (wk54 rC iA) fun uC oE tF hs hr => ?_)
      have hfr := hfr.ext hs
      have q1 := q1.ext hs
      have q2 := q2.ext hs
      subst hr
      refine EL_p (.bool (!t5)) (P_not rfl) rfl ?_
      refine EL_at (.bool (!t5)) rfl rfl ?_
      refine EL_nil ?_
      obtain rfl := sinj h
      exact hQ _ _ ⟨uC, hfr, rfl, q1, rfl, q2, rfl⟩
  ·clear hx
   obtain ⟨d9, hfr, n9, m8, n8, o0, r8⟩ := hR
   rcases csome h with ⟨i7, h⟩ | ⟨i7, h⟩
   ·refine E_cond_true (Eq.trans (show ev _ _ = .bool (u3) from r8) (congrArg Value.bool i7)) ?_
    refine E_seq (E_region (EL_at (.int .i64 (2)) rfl rfl ?_))
    refine EL_nil (thn_n (E_ret (blk_r ?_)))
    refine thn_r ?_
    obtain rfl := sinj h
    exact end1 rfl rfl (show _ = .int .i64 (2) from rfl) ⟨_, hfr, rfl⟩
   ·refine E_cond_false (Eq.trans (show ev _ _ = .bool (u3) from r8) (congrArg Value.bool i7)) ?_
    refine E_seq (E_region (EL_p (fPtr p1 0) (P_fieldAddr at_117_0 n9 (PT.ptr m8)) rfl ?_))
    have u9 := PT_field (part_PayPayList_0).1 m8
    refine EL_p (fPtr (fPtr p1 0) 1) (P_fieldAddr at_25_1 rfl (PT.ptr u9)) rfl ?_
    have vC := PT_field (part_PayList_1).1 u9
    refine EL_do .plain rfl (D_load (g := d9) Tryz.isAgg23 Tryz.sizeOf23 rfl vC fun uF aD => ?_)
    refine EL_p (.int .i64 ((((x0).PayList).Extras).length : Int)) (P_len Tryz.underlying23 rfl aD) rfl ?_
    refine EL_p (.int .i64 ((w64 (((((x0).PayList).Extras).length : Int) - (1 : Int))))) (P_int rfl rfl rfl) rfl ?_
    refine EL_p (fPtr p2 3) (P_fieldAddr at_27_3 n8 (PT.ptr o0)) rfl ?_
    have bD := PT_field (part_PayPiece_3).1 o0
    refine EL_do .plain rfl (D_load (g := d9) Tryz.isAgg23 Tryz.sizeOf23 rfl bD fun cD eD => ?_)
    obtain ⟨x5, yA, h⟩ := bsome h
    refine EL_do .plain rfl (D_call (g := d9) (vs := [.int .i64 (0), .int .i64 ((w64 (((((x0).PayList).Extras).length : Int) - (1 : Int)))), cD]) en54 (.cons rfl (.cons rfl (.cons rfl .nil))) (wk54 eD yA) fun y9 rE vF hs hr => ?_)
    have hfr := hfr.ext hs
    have o0 := o0.ext hs
    subst hr
    refine EL_p (.bool (!x5)) (P_not rfl) rfl ?_
    refine EL_at (.bool (!x5)) rfl rfl ?_
    refine EL_nil (thn_n ?_)
    rcases csome h with ⟨m7, h⟩ | ⟨m7, h⟩
    ·refine E_ct m7 rfl ?_
     refine E_seq (E_region (EL_at (.int .i64 (7)) rfl rfl ?_))
     refine EL_nil (thn_n (E_ret (blk_r ?_)))
     refine thn_r ?_
     obtain rfl := sinj h
     exact end1 rfl rfl (show _ = .int .i64 (7) from rfl) ⟨_, hfr, rfl⟩
    ·refine E_cf m7 rfl ?_
     refine E_seq (E_region (EL_p (fPtr p2 3) (P_fieldAddr at_27_3 n8 (PT.ptr o0)) rfl ?_))
     have iD := PT_field (part_PayPiece_3).1 o0
     refine EL_do .plain rfl (D_load (g := y9) Tryz.isAgg23 Tryz.sizeOf23 rfl iD fun jD lD => ?_)
     obtain ⟨y125, aB, h⟩ := bsome h
     refine EL_do .plain rfl (D_call (g := y9) (vs := [jD]) en102 (.cons rfl .nil) (wk102 lD aB) fun nD uE xF hs hr => ?_)
     have hfr := hfr.ext hs
     subst hr
     refine EL_p (.bool (!y125)) (P_not rfl) rfl ?_
     refine EL_at (.bool (!y125)) rfl rfl ?_
     refine EL_nil (thn_n ?_)
     rcases csome h with ⟨g8, h⟩ | ⟨g8, h⟩
     ·refine E_ct g8 rfl ?_
      refine E_seq (E_region (EL_at (.int .i64 (4)) rfl rfl ?_))
      refine EL_nil (thn_n (E_ret (blk_r ?_)))
      refine thn_r ?_
      obtain rfl := sinj h
      exact end1 rfl rfl (show _ = .int .i64 (4) from rfl) ⟨_, hfr, rfl⟩
     ·refine E_cf g8 rfl ?_
      exact E_skip (blk_n (thn_n (iB () _ _ ⟨nD, hfr⟩ h)))
 ·rintro _ vE yF ⟨aG, hfr⟩ h
  refine E_seq (E_region (EL_at (.int .i64 (0)) rfl rfl ?_))
  refine EL_nil (thn_n (E_ret ?_))
  obtain rfl := sinj h
  exact end1 rfl rfl (show _ = .int .i64 (0) from rfl) ⟨_, hfr, rfl⟩
end Go.Proofs.YtkmbkaoolacofaaGreat
