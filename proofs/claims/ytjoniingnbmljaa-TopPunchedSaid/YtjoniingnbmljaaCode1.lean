import Derived.Test.YtjoniingnbmljaaTypes
import Derived.Test.YtjoniingnbmljaaKn
import Derived.Test.YtjoniingnbmljaaShelf
set_option maxRecDepth 8000
set_option maxHeartbeats 4000000
namespace Go.Proofs.Ytjoniingnbmljaa
open Go.RowKit
theorem info_3 : (Try.prog.info? 3).map (fun i => (i.zero, i.size, i.bytes)) = some (some (.int .i64 0), 1, 8) := by kernel_rfl
theorem info_5 : (Try.prog.info? 5).map (fun i => (i.zero, i.size, i.bytes)) = some (some (.int .u8 0), 1, 1) := by kernel_rfl
theorem plain_ChainCard : Plain ChainCard := fun _ m' _ w' x _ h => (plain_two plain_int (plain_two plain_int plain_bool)) _ m' _ w' _ _ h
@[reducible] def ow_ChainBelt : Ow ChainBelt := Ow.struct (fun (x : ChainBelt) => (x.Hooks, x.Cards)) (Ow.pair (Ow.sh Int) (Ow.list 137 (Ow.sh ChainCard)))
theorem fw_ow_ChainBelt : (ow_ChainBelt).free := free_struct (free_pair (free_sh plain_int) (free_list 137 (free_sh plain_ChainCard)))
theorem mixed : Try.prog.follows .mixedOrders = true := by kernel_rfl
theorem lay_28 : layoutOf Try.prog 28 = some ([.int .i64 0, .slice none 0 0], [(0, 1), (1, 1)]) := by kernel_rfl
theorem lay_30 : layoutOf Try.prog 30 = some ([.int .i64 0, .slice none 0 0], [(0, 1), (1, 1)]) := by kernel_rfl
theorem endm_c {P : Program} {e : Env} {ds : List Deferred} {w : World} {fn : Func} {R : Value → World → Prop} {t0 : Tmp} {v0 : Value} {y0 : TypeId} {a0 : Addr} (hres : fn.results = #[.cell t0 y0]) (hd : ds = []) (h0 : e t0 = .pointer (some a0)) (l0 : (loadVar y0 a0).run P w = .ok v0 w) (h : R v0 w) : atEnd P fn R .ret e ds w :=
 ⟨hd, fun tmps ht => ⟨_, by simp [results, hres, ht, asAddr, h0, l0], h⟩⟩
theorem capf_0_1 {e : Env} {f : FuncId} {o0 : Operand} {b0 : Value} (hb0 : ev e o0 = b0) : (Value.func (.func f) ((#[] : Array Operand).map (ev e)) ((#[o0] : Array Operand).map (ev e))) = .func (.func f) #[] #[b0] := by simp [hb0]
theorem lay_229 : layoutOf Try.prog 229 = some ([.int .i64 0, .int .i64 0, .int .i64 0, .int .i64 0], [(0, 1), (1, 1), (2, 1), (3, 1)]) := by kernel_rfl
theorem info_137 : (Try.prog.info? 137).map (fun i => (i.zero, i.size, i.bytes)) = some (some (.agg #[.int .i64 0, .int .i64 0, .bool false]), 3, 24) := by kernel_rfl
theorem lay_137 : layoutOf Try.prog 137 = some ([.int .i64 0, .int .i64 0, .bool false], [(0, 1), (1, 1), (2, 1)]) := by kernel_rfl
theorem lay_110 : layoutOf Try.prog 110 = some ([.int .i64 0, .slice none 0 0], [(0, 1), (1, 1)]) := by kernel_rfl
theorem endm_ct {P : Program} {e : Env} {ds : List Deferred} {w : World} {fn : Func} {R : Value → World → Prop} {t0 : Tmp} {v0 : Value} {y0 : TypeId} {a0 : Addr} {t1 : Tmp} {v1 : Value} (hres : fn.results = #[.cell t0 y0, .tmp t1]) (hd : ds = []) (h0 : e t0 = .pointer (some a0)) (l0 : (loadVar y0 a0).run P w = .ok v0 w) (h1 : e t1 = v1) (h : R (.tuple #[v0, v1]) w) : atEnd P fn R .ret e ds w :=
 ⟨hd, fun tmps ht => ⟨_, by simp [results, hres, ht, asAddr, h0, l0, h1], h⟩⟩
theorem capf_0_2 {e : Env} {f : FuncId} {o0 : Operand} {u3 : Operand} {b0 : Value} {b1 : Value} (hb0 : ev e o0 = b0) (hb1 : ev e u3 = b1) : (Value.func (.func f) ((#[] : Array Operand).map (ev e)) ((#[o0, u3] : Array Operand).map (ev e))) = .func (.func f) #[] #[b0, b1] := by simp [hb0, hb1]
theorem lay_236 : layoutOf Try.prog 236 = some ([.int .i64 0, .slice none 0 0, .int .i64 0], [(0, 2), (2, 1)]) := by kernel_rfl
theorem key_3 : KeyLaw Try.prog 3 (Value.int .i64) := keyLaw_int Try.underlying3
theorem endm_ctt {P : Program} {e : Env} {ds : List Deferred} {w : World} {fn : Func} {R : Value → World → Prop} {t0 : Tmp} {v0 : Value} {y0 : TypeId} {a0 : Addr} {t1 : Tmp} {v1 : Value} {t2 : Tmp} {v2 : Value} (hres : fn.results = #[.cell t0 y0, .tmp t1, .tmp t2]) (hd : ds = []) (h0 : e t0 = .pointer (some a0)) (l0 : (loadVar y0 a0).run P w = .ok v0 w) (h1 : e t1 = v1) (h2 : e t2 = v2) (h : R (.tuple #[v0, v1, v2]) w) : atEnd P fn R .ret e ds w :=
 ⟨hd, fun tmps ht => ⟨_, by simp [results, hres, ht, asAddr, h0, l0, h1, h2], h⟩⟩
theorem fl_ChainBelt_1 : Fl ow_ChainBelt (Ow.list 137 (Ow.sh ChainCard)) 1 (fun (x : ChainBelt) y => { x with Cards := y }) (fun (q : (ow_ChainBelt).S) (r : ((Ow.list 137 (Ow.sh ChainCard))).S) => ((Prod.fst q), r)) := Fl.of _ (Fl.comp Prod.snd Prod.snd (Fl.snd _ _) (Fl.id_ _) rfl) (fun _ _ => rfl)
theorem lay_343 : layoutOf Try.prog 343 = some ([.int .i64 0, .int .i64 0, .int .i64 0, .int .i64 0], [(0, 4)]) := by kernel_rfl
theorem lay_221 : layoutOf Try.prog 221 = some ([.int .i64 0, .slice none 0 0], [(0, 2)]) := by kernel_rfl
theorem info_9 : (Try.prog.info? 9).map (fun i => (i.zero, i.size, i.bytes)) = some (some (Str.v ⟨[]⟩), 1, 16) := by kernel_rfl
theorem fl_ChainCard_2 : Fl (Ow.sh ChainCard) (Ow.sh Bool) 2 (fun (x : ChainCard) y => { x with Turned := y }) (fun q _ => q) := Fl.shd part_ChainCard_2 (fun _ _ => rfl) (fun _ _ _ => rfl)
theorem tup3_0 {b0 b1 b2 : Value} {B0 : Value → Prop} {B1 : Value → Prop} {B2 : Value → Prop} (h : ∃ c0 c1 c2 : Value, Value.tuple #[b0, b1, b2] = .tuple #[c0, c1, c2] ∧ B0 c0 ∧ B1 c1 ∧ B2 c2) : B0 b0 := by
 obtain ⟨c0, c1, c2, he, h0, h1, h2⟩ := h; simp at he; obtain ⟨rfl, rfl, rfl⟩ := he; exact h0
theorem tup2_0 {b0 b1 : Value} {B0 : Value → Prop} {B1 : Value → Prop} (h : ∃ c0 c1 : Value, Value.tuple #[b0, b1] = .tuple #[c0, c1] ∧ B0 c0 ∧ B1 c1) : B0 b0 := by
 obtain ⟨c0, c1, he, h0, h1⟩ := h; simp at he; obtain ⟨rfl, rfl⟩ := he; exact h0
theorem atS_0 (a : Addr) (w : World) : (Instr.fieldAt 331 (.pointer (some a)) 0).run Try.prog w = .ok (.pointer (some (a.add 0))) w := by simp [Instr.fieldAt, run_underlying Try.underlying331, Instr.sureAddr, fieldPlace, Result.andThen]
theorem atS_1 (a : Addr) (w : World) : (Instr.fieldAt 331 (.pointer (some a)) 1).run Try.prog w = .ok (.pointer (some (a.add 1))) w := by simp [Instr.fieldAt, run_underlying Try.underlying331, Instr.sureAddr, fieldPlace, Result.andThen]
theorem sb_size : (Try.prog.info? 331).map (·.size) = some 2 := by kernel_rfl
theorem sb_psize : ∃ j, Try.prog.info? 331 = some j ∧ j.size = 2 := Option.map_eq_some_iff.1 sb_size
theorem en242 : Enters Try.prog 242 := enters_of Try.func242 (by kernel_rfl) rfl
theorem ob_shape {i : Nat} {g : Gh} {w : World} {x : Fv × List UInt8} {b o : Nat} (hb : OB i g w 331 x (.pointer (some ⟨b, o, none⟩))) : o = 0 ∧ w.shape? b = some (331, 2) := by
 obtain ⟨b', cs, hp, _, _, hh, hr⟩ := hb
 injection hp with hp; injection hp with hp; injection hp with h1 h2
 subst h1; subst h2
 have hl := GoT.len hr
 simp [GoT.k] at hl
 exact ⟨rfl, by simp [World.shape?, hh, hl]⟩
theorem wk242 {i j : Nat} (hji : Nat.beq j i = false) {g : Gh} {w : World} {a : Fv} {xs : List UInt8} {p : Value} (hb : OB i g w 331 (a, xs) p) (ho : OSF i j 1 g w 5 331 xs p) (ha : a.v = .pointer none ∨ a.v = p) :
  Calls Try.prog 242 #[p] w fun r w' => ∃ v, r = .returned v ∧ ∃ g', Stp i g w g' w' ∧ ∃ a' : Fv, a'.v = p ∧ OB i g' w' 331 (a', xs) p ∧ OSF i j 1 g' w' 5 331 xs p := by
 obtain ⟨b, o, rfl⟩ := hb.ptr
 obtain ⟨hoff, hsh⟩ := ob_shape hb
 subst hoff
 obtain ⟨jt, hj, hjs⟩ := sb_psize
 refine calls_of_E Try.func242 rfl (Nat.le_of_ble_eq_true rfl) ?_
 show E _ 20 none _ _ _ _ _
 refine E_seq (E_region (EL_mw (.pointer (some ⟨b, 0, none⟩)) rfl rfl ?_))
 refine EL_p (.pointer (some ⟨b, 0, none⟩)) (P_nilCheck rfl) rfl ?_
 refine EL_p (fPtr (.pointer (some ⟨b, 0, none⟩)) 0) (P_fieldAddr atS_0 rfl ⟨b, 0, rfl⟩) rfl ?_
 refine EL_do .plain rfl (D_loadF (g := g) (a := (a, xs)) Sub.fst Try.isAgg329 Try.sizeOf329 rfl hb fun v r => ?_)
 obtain rfl := RV_fv.1 r
 rcases ha with ha | ha
 ·refine EL_p (.bool true) (P_ptreq (u2 := .pointer none) (.inl rfl) (show _ = .pointer none from ha) rfl ⟨_, rfl⟩ ⟨_, rfl⟩ (fun w => by simpa using run_eql_pointer_nil (P := Try.prog) w 329 none Try.underlying329)) rfl ?_
  refine EL_nil (thn_n (E_cond_true rfl (E_region ?_)))
  refine EL_mw (.pointer (some ⟨b, 0, none⟩)) rfl rfl ?_
  refine EL_mw (.pointer (some ⟨b, 0, none⟩)) rfl rfl ?_
  refine EL_val (v := .pointer (some ⟨b, 0, none⟩)) (w' := w) .plain (fun _ h => by cases h) rfl (by
   have := Lib.run_to_unsafe w ⟨b, 0, none⟩ Try.underlying329 Try.underlying422 hj (by rw [hjs]; decide) hsh (by show 0 < 2; omega)
   show (Sem.run _ (execOp _ _) _) = _
   simp only [execOp, Sem.run_bind]
   rw [show ev _ (Operand.tmp 8) = Value.pointer (some ⟨b, 0, none⟩) from rfl, this]
   rfl) ?_
  refine EL_p (.pointer (some ⟨b, 0, none⟩)) (P_extern Try.func275 (by kernel_rfl) (by kernel_rfl) (by kernel_rfl) (ex := Extern.AbiNoEscape.same) (by kernel_rfl) (.cons rfl .nil) (fun _ => rfl)) rfl ?_
  refine EL_val (v := .pointer (some ⟨b, 0, none⟩)) (w' := w) .plain (fun _ h => by cases h) rfl (by
   have := Lib.run_from_unsafe w ⟨b, 0, none⟩ Try.underlying422 Try.underlying329 hj hsh (by kernel_rfl)
   show (Sem.run _ (execOp _ _) _) = _
   simp only [execOp, Sem.run_bind]
   rw [show ev _ (Operand.tmp 10) = Value.pointer (some ⟨b, 0, none⟩) from rfl, this]
   rfl) ?_
  refine EL_p (.pointer (some ⟨b, 0, none⟩)) (P_nilCheck rfl) rfl ?_
  refine EL_p (fPtr (.pointer (some ⟨b, 0, none⟩)) 0) (P_fieldAddr atS_0 rfl ⟨b, 0, rfl⟩) rfl ?_
  refine EL_do .plain rfl (D_storeFc (g := g) (a := (a, xs)) (b := (⟨.pointer (some ⟨b, 0, none⟩), rfl⟩ : Fv)) SubS.fst Try.sizeOf329 rfl hb rfl (RV_fv.2 rfl) fun g1 w1 hs b1 rst _ => ?_)
  exact EL_nil (end0n rfl rfl ⟨g1, hs, _, rfl, b1, ho.rest hs rst rfl hji⟩)
 ·refine EL_p (.bool false) (P_ptreq (u2 := .pointer none) (.inl rfl) (show _ = .pointer (some ⟨b, 0, none⟩) from ha) rfl ⟨_, rfl⟩ ⟨_, rfl⟩ (fun w => by simpa using run_eql_pointer_nil (P := Try.prog) w 329 (some ⟨b, 0, none⟩) Try.underlying329)) rfl ?_
  refine EL_nil (thn_n (E_cond_false rfl ?_))
  refine E_seq (E_region (EL_mw (.pointer (some ⟨b, 0, none⟩)) rfl rfl ?_))
  refine EL_p (.pointer (some ⟨b, 0, none⟩)) (P_nilCheck rfl) rfl ?_
  refine EL_p (fPtr (.pointer (some ⟨b, 0, none⟩)) 0) (P_fieldAddr atS_0 rfl ⟨b, 0, rfl⟩) rfl ?_
  refine EL_do .plain rfl (D_loadF (g := g) (a := (a, xs)) Sub.fst Try.isAgg329 Try.sizeOf329 rfl hb fun v r => ?_)
  obtain rfl := RV_fv.1 r
  refine EL_mw (.pointer (some ⟨b, 0, none⟩)) rfl rfl ?_
  refine EL_p (.bool false) (P_ptreq (.inr rfl) (show _ = .pointer (some ⟨b, 0, none⟩) from ha) rfl ⟨_, rfl⟩ ⟨_, rfl⟩ (fun w => Lib.run_neq_ptr_same w ⟨b, 0, none⟩ Try.underlying329 hj)) rfl ?_
  refine EL_nil (thn_n (E_cond_false rfl (E_skip ?_)))
  exact end0n rfl rfl ⟨g, stp_refl _ _ _, _, ha, hb, ho⟩
theorem en185 : Enters Try.prog 185 := enters_of Try.func185 (by kernel_rfl) rfl
theorem wk185 {i j : Nat} (hji : Nat.beq j i = false) (hij : Nat.beq i j = false) {g : Gh} {w : World} {c : UInt8} {xs r : List UInt8} {p : Value} (hsb : SB i j g w 5 331 xs p) (hr : apnd 1 xs [c] = some r) :
  Calls Try.prog 185 #[p, .int .u8 c.toNat] w fun q w' => ∃ v, q = .returned v ∧ v = .nilIface ∧ WB i j g w 5 331 r p w' := by
 obtain ⟨a, hb, ho, ha⟩ := hsb
 obtain ⟨b, o, rfl⟩ := hb.ptr
 obtain ⟨hoff, hsh⟩ := ob_shape hb
 subst hoff
 refine calls_of_E Try.func185 rfl (Nat.le_of_ble_eq_true rfl) ?_
 show E _ 17 none _ _ _ _ _
 refine E_seq (E_region (EL_at (.nilIface) rfl rfl ?_))
 refine EL_nil (thn_n (E_seq (E_region (EL_mw (.pointer (some ⟨b, 0, none⟩)) rfl rfl ?_))))
 refine EL_do .plain rfl (D_callC (vs := [.pointer (some ⟨b, 0, none⟩)]) en242 (.cons rfl .nil) (wk242 hji hb ho ha) fun v w1 h1 => ?_)
 obtain ⟨g1, hs1, a1, ha1, hb1, ho1⟩ := h1
 refine EL_nil (thn_n (E_seq (E_region (EL_mw (.pointer (some ⟨b, 0, none⟩)) rfl rfl ?_))))
 refine EL_mw (.pointer (some ⟨b, 0, none⟩)) rfl rfl ?_
 refine EL_p (.pointer (some ⟨b, 0, none⟩)) (P_nilCheck rfl) rfl ?_
 refine EL_p (fPtr (.pointer (some ⟨b, 0, none⟩)) 1) (P_fieldAddr atS_1 rfl ⟨b, 0, rfl⟩) rfl ?_
 refine EL_do .plain rfl (D_loadFS (g := g1) (a := (a1, xs)) (f := Prod.snd) Sub.snd Try.isAgg22 Try.sizeOf22 rfl hb1 ho1 fun v2 r2 o2 => ?_)
 refine EL_mw (.int .u8 c.toNat) rfl rfl ?_
 refine EL_do .plain rfl (D_buildSlice (g := g1) 1 (xs := [c]) (vs := [.int .u8 c.toNat]) Try.underlying22 Try.sizeOf5 Try.zeroValue5 rfl rfl (.cons rfl .nil) (RVs.cons (RV_u8.2 rfl) RVs.nil) rfl rfl fun g3 w3 v3 _ _ r3 hxt _ => ?_)
 refine EL_do .plain rfl (D_append (g := g3) (i := j) Try.underlying22 info_5 rfl rfl (o2.ext hxt) (r2.ext hxt) rfl r3 hr fun g4 w4 v4 hs4 o4 r4 _ => ?_)
 have hb4 := (hb1.ext hxt).stp hs4 hij
 refine EL_p (.pointer (some ⟨b, 0, none⟩)) (P_nilCheck rfl) rfl ?_
 refine EL_p (fPtr (.pointer (some ⟨b, 0, none⟩)) 1) (P_fieldAddr atS_1 rfl ⟨b, 0, rfl⟩) rfl ?_
 refine EL_do .plain rfl (D_storeFc (g := g4) (a := (a1, xs)) SubS.snd Try.sizeOf22 rfl hb4 rfl r4 fun g5 w5 hs5 b5 _ hos => ?_)
 have o5 := hos _ _ j 5 r (rv_cells1 r4) hji o4
 refine EL_nil (thn_n (E_seq (E_region (EL_at (.nilIface) rfl rfl ?_))))
 refine EL_nil (thn_n (E_ret (end1 rfl rfl (show _ = .nilIface from rfl) ⟨rfl, g5, ⟨g1, w1, g4, w4, hs1, (hxt.stp.trans hs4), hs5⟩, a1, b5, o5, .inr ha1⟩)))
theorem en188 : Enters Try.prog 188 := enters_of Try.func188 (by kernel_rfl) rfl
theorem mixedS : Try.prog.follows .mixedOrders = true := by kernel_rfl
theorem wk188 {i j : Nat} (hij : Nat.beq i 0 = false) {g : Gh} {w : World} {xs : List UInt8} {p : Value} (hsb : SB i j g w 5 331 xs p) (h0 : xs ≠ []) :
  Calls Try.prog 188 #[p] w fun q w' => ∃ v, q = .returned v ∧ GS j g w xs v w' := by
 obtain ⟨a, hb, ho, ha⟩ := hsb
 obtain ⟨b, o, rfl⟩ := hb.ptr
 obtain ⟨hoff, hsh⟩ := ob_shape hb
 subst hoff
 refine calls_of_E Try.func188 rfl (Nat.le_of_ble_eq_true rfl) ?_
 show E _ 14 none _ _ _ _ _
 refine E_seq (E_region (EL_at (Str.v ⟨[]⟩) rfl rfl ?_))
 refine EL_nil (thn_n (L_loadFSx (f := Prod.snd) (a := (a, xs)) Sub.snd Try.isAgg22 Try.sizeOf22 hb ho fun v r os hl => ?_))
 obtain ⟨sa, c, rfl, hc, _⟩ := RV_list r
 have hne : c ≠ 0 := by
  have : 0 < xs.length := by cases xs with
   | nil => exact absurd rfl h0
   | cons _ _ => simp
  have hc' : xs.length ≤ c := hc
  omega
 refine E_seq (E_drawL (g := g) (n := 10) [] [0, 1, 2, 3, 4, 5, 6, 7, 8, 9] rfl mixedS (by kernel_rfl) trivial ?_)
 refine L_p (.pointer (some ⟨b, 0, none⟩)) rfl rfl (P_move rfl) ?_
 refine L_p (.pointer (some ⟨b, 0, none⟩)) rfl rfl (P_nilCheck rfl) ?_
 refine L_p (fPtr (.pointer (some ⟨b, 0, none⟩)) 1) rfl rfl (P_fieldAddr atS_1 rfl ⟨b, 0, rfl⟩) ?_
 refine L_ld (c := .slice sa xs.length c) rfl rfl .plain (fun _ _ h => ⟨h.ch, fun b hb _ => h.below.block b hb⟩) (hl _) rfl ?_
 refine L_p (.pointer sa) rfl rfl (P_sliceData (a := sa) (n := xs.length) (c := c) rfl (.inl hne)) ?_
 refine L_p (.pointer (some ⟨b, 0, none⟩)) rfl rfl (P_move rfl) ?_
 refine L_p (.pointer (some ⟨b, 0, none⟩)) rfl rfl (P_nilCheck rfl) ?_
 refine L_p (fPtr (.pointer (some ⟨b, 0, none⟩)) 1) rfl rfl (P_fieldAddr atS_1 rfl ⟨b, 0, rfl⟩) ?_
 refine L_ld (c := .slice sa xs.length c) rfl rfl .plain (fun _ _ h => ⟨h.ch, fun b hb _ => h.below.block b hb⟩) (hl _) rfl ?_
 refine L_p (.int .i64 (xs.length : Int)) rfl rfl (P_len (v := .slice sa xs.length c) Try.underlying22 rfl r) ?_
 refine L_nil fun g1 w1 hall => ?_
 have hs := hall.1
 refine EL_do .plain rfl (D_unsafeString (g := g1) (j := j) (et := 5) rfl Try.underlying389 (by kernel_rfl) h0 rfl rfl (os.ext hs) (r.ext hs) fun g2 w2 hs2 => ?_)
 refine EL_at (Str.v ⟨xs⟩) rfl rfl ?_
 exact EL_nil (thn_n (E_ret (end1 rfl rfl (show _ = Str.v ⟨xs⟩ from rfl) ⟨rfl, g2, hs.stp.trans hs2⟩)))
def lenTab : Str := (⟨[0, 1, 2, 2, 3, 3, 3, 3, 4, 4, 4, 4, 4, 4, 4, 4, 5, 5, 5, 5, 5, 5, 5, 5, 5, 5, 5, 5, 5, 5, 5, 5, 6, 6, 6, 6, 6, 6, 6, 6, 6, 6, 6, 6, 6, 6, 6, 6, 6, 6, 6, 6, 6, 6, 6, 6, 6, 6, 6, 6, 6, 6, 6, 6, 7, 7, 7, 7, 7, 7, 7, 7, 7, 7, 7, 7, 7, 7, 7, 7, 7, 7, 7, 7, 7, 7, 7, 7, 7, 7, 7, 7, 7, 7, 7, 7, 7, 7, 7, 7, 7, 7, 7, 7, 7, 7, 7, 7, 7, 7, 7, 7, 7, 7, 7, 7, 7, 7, 7, 7, 7, 7, 7, 7, 7, 7, 7, 7, 8, 8, 8, 8, 8, 8, 8, 8, 8, 8, 8, 8, 8, 8, 8, 8, 8, 8, 8, 8, 8, 8, 8, 8, 8, 8, 8, 8, 8, 8, 8, 8, 8, 8, 8, 8, 8, 8, 8, 8, 8, 8, 8, 8, 8, 8, 8, 8, 8, 8, 8, 8, 8, 8, 8, 8, 8, 8, 8, 8, 8, 8, 8, 8, 8, 8, 8, 8, 8, 8, 8, 8, 8, 8, 8, 8, 8, 8, 8, 8, 8, 8, 8, 8, 8, 8, 8, 8, 8, 8, 8, 8, 8, 8, 8, 8, 8, 8, 8, 8, 8, 8, 8, 8, 8, 8, 8, 8, 8, 8, 8, 8, 8, 8, 8, 8, 8, 8, 8, 8, 8, 8, 8, 8, 8, 8, 8, 8]⟩ : Str)
def f298 (x : Int) : Option Int := if 0 ≤ x ∧ x < 256 then (idx lenTab.b x).map fun c => w64 (0 + (c.toNat : Int)) else none
def f266 (x : Int) : Option Int := f298 x
theorem en298 : Enters Try.prog 298 := enters_of Try.func298 (by kernel_rfl) rfl
theorem en266 : Enters Try.prog 266 := enters_of Try.func266 (by kernel_rfl) rfl
theorem wk298 {gI : Gh} {wI : World} {x0 : Int} {r : Int} (h : f298 x0 = some r) : Fn Try.prog 298 #[.int .u64 x0] gI wI (fun _ _ v => v = .int .i64 (r)) := by
 unfold f298 at h
 split at h
 case isFalse => cases h
 rename_i hx
 obtain ⟨h0, h1⟩ := hx
 cases hc : idx lenTab.b x0 with
 | none => rw [hc] at h; cases h
 | some c =>
 rw [hc] at h
 obtain rfl := sinj h
 refine fn_of_E Try.func298 rfl (Nat.le_of_ble_eq_true rfl) fun g0 hm hfr => ?_
 show E _ 25 none _ _ _ _ _
 refine E_seq (E_region (EL_at (.int .i64 0) rfl rfl (EL_nil (thn_n ?_))))
 refine E_seq (E_seq (E_region (EL_mw (.int .u64 x0) rfl rfl ?_)))
 refine EL_p (.bool false) (P_u64lt rfl rfl (by omega)) rfl (EL_nil (thn_n ?_))
 refine E_cond_false rfl (E_skip (thn_n ?_))
 refine E_seq (E_seq (E_region (EL_mw (.int .u64 x0) rfl rfl ?_)))
 refine EL_p (.bool false) (P_u64lt rfl rfl (by omega)) rfl (EL_nil (thn_n ?_))
 refine E_cond_false rfl (E_skip (thn_n ?_))
 refine E_seq (E_seq (E_region (EL_mw (.int .u64 x0) rfl rfl ?_)))
 refine EL_p (.bool false) (P_u64lt rfl rfl (by omega)) rfl (EL_nil (thn_n ?_))
 refine E_cond_false rfl (E_skip (thn_n ?_))
 refine E_seq (E_region (EL_mw (.int .i64 0) rfl rfl ?_))
 refine EL_mw (.int .u64 x0) rfl rfl ?_
 refine EL_p (.int .u8 x0) (P_u64u8 Try.underlying381 Try.underlying5 rfl h0 h1) rfl ?_
 refine EL_p (.int .u8 c.toNat) (P_indexS (s := lenTab) Try.underlying9 rfl rfl hc) rfl ?_
 refine EL_p (.int .i64 (c.toNat : Int)) (P_u8int Try.underlying5 Try.underlying2 rfl) rfl ?_
 refine EL_in (.int .i64 (w64 (0 + (c.toNat : Int)))) rfl rfl rfl rfl ?_
 refine EL_at (.int .i64 (w64 (0 + (c.toNat : Int)))) rfl rfl (EL_nil (thn_n ?_))
 exact E_ret (end1 rfl rfl (show _ = _ from rfl) ⟨_, hfr, rfl⟩)
theorem wk266 {gI : Gh} {wI : World} {x0 : Int} {r : Int} (h : f266 x0 = some r) : Fn Try.prog 266 #[.int .u64 x0] gI wI (fun _ _ v => v = .int .i64 (r)) := by
 unfold f266 at h
 refine fn_of_E Try.func266 rfl (Nat.le_of_ble_eq_true rfl) fun g0 hm hfr => ?_
 show E _ 8 none _ _ _ _ _
 refine E_seq (E_region (EL_at (.int .i64 0) rfl rfl (EL_nil (thn_n ?_))))
 refine E_seq (E_cond_false rfl (E_skip (thn_n ?_)))
 refine E_seq (E_region (EL_mw (.int .u64 x0) rfl rfl ?_))
 refine EL_do .plain rfl (D_call (g := g0) (vs := [.int .u64 x0]) en298 (.cons rfl .nil) (wk298 h) fun g1 w1 v1 hs hr => ?_)
 have hfr := hfr.ext hs
 subst hr
 refine EL_at (.int .i64 r) rfl rfl (EL_nil (thn_n ?_))
 exact E_ret (end1 rfl rfl (show _ = _ from rfl) ⟨_, hfr, rfl⟩)
theorem en168 : Enters Try.prog 168 := enters_of Try.func168 (by kernel_rfl) rfl
theorem mul_ok : Muls Try.prog 168 := fun x y hx hy w => Try.bits_Mul x y hx hy w
def f40 : Option Bool := some true
theorem en40 : Enters Try.prog 40 := enters_of Try.func40 (by kernel_rfl) rfl
theorem wk40 {gI : Gh} {wI : World} {r : Bool} (h : f40 = some r) : Fn Try.prog 40 #[] gI wI (fun _ _ v => v = .bool (r)) := by
 injection h with h
 subst h
 exact wkK40
def f61 : Option Bool := some true
theorem en61 : Enters Try.prog 61 := enters_of Try.func61 (by kernel_rfl) rfl
theorem wk61 {gI : Gh} {wI : World} {r : Bool} (h : f61 = some r) : Fn Try.prog 61 #[] gI wI (fun _ _ v => v = .bool (r)) := by
 injection h with h
 subst h
 exact wkK61
def f11 (x0 : List Int) : Option ((List Int)) :=
 (apnd 8 (([] : List Int)) x0).bind fun y3 =>
 some (y3)
theorem en11 : Enters Try.prog 11 := enters_of Try.func11 (by kernel_rfl) rfl
theorem wk11 {gI : Gh} {wI : World} {x0 : List Int} {up0 : Value} (rp0 : RV gI.m wI x0 up0) {r : (List Int)} (h : f11 x0 = some r) : Fn Try.prog 11 #[up0] gI wI (fun m w v => RV m w (r) v) := by
 unfold f11 at h
 refine fn_of_E Try.func11 rfl (Nat.le_of_ble_eq_true rfl) fun g0 hm hfr => ?_
 have rp0 : RV g0.m wI x0 up0 := hm ▸ rp0
 show E _ 6 none _ _ _ _ _
 refine E_seq (E_region (EL_at (.slice none 0 0) rfl rfl ?_))
 refine EL_nil (thn_n (E_seq (E_region (EL_do .plain rfl (D_buildSlice (g := g0) 3003 (xs := ([] : List Int)) (vs := []) Try.underlying26 Try.sizeOf3 Try.zeroValue3 rfl rfl .nil RVs.nil rfl rfl fun g1 w1 v1 hs o1 r1 hxt hfl => ?_)))))
 have hfr := hfr.stp hs
 have rp0 := rp0.stp hs
 refine EL_mw up0 rfl rfl ?_
 obtain ⟨y3, hy3, h⟩ := bsome h
 refine EL_do .plain rfl (D_append (g := g1) (i := 3003) Try.underlying26 info_3 rfl rfl o1 r1 rfl rp0 hy3 fun g2 w2 v2 hs o2 r2 _ => ?_)
 have hfr := hfr.stp hs
 refine EL_at v2 rfl rfl ?_
 refine EL_nil (thn_n (E_ret ?_))
 obtain rfl := sinj h
 exact end1 rfl rfl (show _ = v2 from rfl) ⟨_, hfr, r2⟩
def f13 (x0 : List Int) (x1 : List Int) : Option (Bool) :=
 jn (σ := Unit) (fun _ =>
  jn (σ := Unit) (fun _ =>
   some (true)
   ) fun k53 =>
  lp (σ := Int) (fun k54 o0 =>
   jn (σ := Unit) (fun _ =>
    jn (σ := Unit) (fun _ =>
     k54 ((w64 (o0 + (1 : Int))))
     ) fun n9 =>
    (idx x0 o0).bind fun x6 =>
    (idx x1 o0).bind fun y6 =>
    bif (x6 != y6) then
     some (false)
    else
     n9 ()
    ) fun k57 =>
   bif (decide (o0 < ((x0).length : Int))) then
    k57 ()
   else
    k53 ()
   ) big ((0 : Int))
  ) fun k2 =>
 bif (((x0).length : Int) != ((x1).length : Int)) then
  some (false)
 else
  k2 ()
theorem en13 : Enters Try.prog 13 := enters_of Try.func13 (by kernel_rfl) rfl
theorem wk13 {gI : Gh} {wI : World} {x0 : List Int} {x1 : List Int} {up0 : Value} (rp0 : RV gI.m wI x0 up0) {up1 : Value} (rp1 : RV gI.m wI x1 up1) {r : Bool} (h : f13 x0 x1 = some r) : Fn Try.prog 13 #[up0, up1] gI wI (fun _ _ v => v = .bool (r)) := by
 unfold f13 at h
 refine fn_of_E Try.func13 rfl (Nat.le_of_ble_eq_true rfl) fun g0 hm hfr => ?_
 have rp0 : RV g0.m wI x0 up0 := hm ▸ rp0
 have rp1 : RV g0.m wI x1 up1 := hm ▸ rp1
 show E _ 26 none _ _ _ _ _
 refine E_seq (E_region (EL_at (.bool false) rfl rfl ?_))
 refine EL_nil (thn_n (E_joinC h (fun (s : Unit) e w => ∃ (g : Gh) , Fr gI wI g w ∧ e 0 = up0 ∧ RV g.m w (x0 : List Int) up0 ∧ e 1 = up1 ∧ RV g.m w (x1 : List Int) up1) (fun X2 k2 hk2 h => ?_) ?_))
 ·refine E_seq (E_region (EL_mw up0 rfl rfl ?_))
  refine EL_p (.int .i64 ((x0).length : Int)) (P_len Try.underlying26 rfl rp0) rfl ?_
  refine EL_mw up1 rfl rfl ?_
  refine EL_p (.int .i64 ((x1).length : Int)) (P_len Try.underlying26 rfl rp1) rfl ?_
  refine EL_in (.bool ((((x0).length : Int) != ((x1).length : Int)))) rfl rfl rfl rfl ?_
  refine EL_nil (thn_n ?_)
  rcases csome h with ⟨hc3, h⟩ | ⟨hc3, h⟩
  ·refine E_ct hc3 rfl ?_
   refine E_seq (E_region (EL_at (.bool false) rfl rfl ?_))
   refine EL_nil (thn_n (E_ret (thn_r ?_)))
   obtain rfl := sinj h
   exact end1 rfl rfl (show _ = .bool false from rfl) ⟨_, hfr, rfl⟩
  ·refine E_cf hc3 rfl ?_
   exact E_skip (thn_n (hk2 () _ _ ⟨g0, hfr, rfl, rp0, rfl, rp1⟩ h))
 ·rintro _ bD w4 ⟨g4, hfr, y9, z9, bA, iA⟩ h
  refine E_joinC h (fun (s : Unit) e w => ∃ (g : Gh) , Fr gI wI g w) (fun X53 k53 rA h => ?_) ?_
  ·refine E_seq (E_region (EL_at (.int .i64 (0)) rfl rfl ?_))
   refine EL_nil (thn_n (E_block ?_))
   refine E_lp h (fun (s : Int) e w => ∃ (g : Gh) , Fr gI wI g w ∧ e 0 = up0 ∧ RV g.m w (x0 : List Int) up0 ∧ e 1 = up1 ∧ RV g.m w (x1 : List Int) up1 ∧ e 5 = .int .i64 (s)) ⟨g4, hfr, y9, z9, bA, iA, rfl⟩ (fun X54 k54 yA => ?_)
   rintro o0 qC cD ⟨u9, hfr, i7, m7, k9, l9, g8⟩ h
   refine E_joinC h (fun (s : Unit) e w => ∃ (g : Gh) , Fr gI wI g w ∧ e 0 = up0 ∧ RV g.m w (x0 : List Int) up0 ∧ e 1 = up1 ∧ RV g.m w (x1 : List Int) up1 ∧ e 5 = .int .i64 (o0)) (fun X57 k57 aB h => ?_) ?_
   ·refine E_seq (E_region (EL_mv g8 rfl ?_))
    refine EL_mv i7 rfl ?_
    refine EL_p (.int .i64 ((x0).length : Int)) (P_len Try.underlying26 rfl m7) rfl ?_
    refine EL_in (.bool ((decide (o0 < ((x0).length : Int))))) rfl rfl rfl rfl ?_
    refine EL_nil (thn_n ?_)
    rcases csome h with ⟨i6, h⟩ | ⟨i6, h⟩
    ·refine E_ct i6 rfl ?_
     exact E_skip (thn_n (aB () _ _ ⟨u9, hfr, i7, m7, k9, l9, g8⟩ h))
    ·refine E_cf i6 rfl ?_
     refine E_exit ?_
     refine thn_e ?_
     refine thn_e ?_
     refine blk_hit ?_
     exact thn_n (rA () _ _ ⟨u9, hfr⟩ h)
   ·rintro _ rC eD ⟨nB, hfr, k8, u3, l8, l5, t5⟩ h
    refine E_joinC h (fun (s : Unit) e w => ∃ (g : Gh) , Fr gI wI g w ∧ e 0 = up0 ∧ RV g.m w (x0 : List Int) up0 ∧ e 1 = up1 ∧ RV g.m w (x1 : List Int) up1 ∧ e 5 = .int .i64 (o0)) (fun X81 n9 dB h => ?_) ?_
    ·refine E_block ?_
     refine E_seq ?_
     obtain ⟨x6, m8, h⟩ := bsome h
     have oB := PT_idx u3 m8
     refine L_load (x := .tmp 19) Try.isAgg3 Try.sizeOf3 oB fun gD tB iB => ?_
     obtain rfl := RV_int.1 tB
     obtain ⟨y6, n8, h⟩ := bsome h
     have vB := PT_idx l5 n8
     refine L_load (x := .tmp 23) Try.isAgg3 Try.sizeOf3 vB fun iD yB lB => ?_
     obtain rfl := RV_int.1 yB
     refine E_drawL (g := nB) (n := 9) [] [0, 1, 2, 3, 4, 5, 6, 7, 8] rfl mixed (by kernel_rfl) trivial ?_
     refine L_p up0 rfl rfl (P_move k8) ?_
     refine L_p (.int .i64 (o0)) rfl rfl (P_move t5) ?_
     refine L_p (ePtr up0 o0 1) rfl rfl (P_indexAddr (α := Int) Try.underlying26 Try.sizeOf3 rfl u3 rfl m8) ?_
     refine L_ld (c := .int .i64 (x6)) rfl rfl .plain (fun _ _ h => h.ch) iB rfl ?_
     refine L_p up1 rfl rfl (P_move l8) ?_
     refine L_p (.int .i64 (o0)) rfl rfl (P_move t5) ?_
     refine L_p (ePtr up1 o0 1) rfl rfl (P_indexAddr (α := Int) Try.underlying26 Try.sizeOf3 rfl l5 rfl n8) ?_
     refine L_ld (c := .int .i64 (y6)) rfl rfl .plain (fun _ _ h => h.ch) lB rfl ?_
     refine L_p (.bool ((x6 != y6))) rfl rfl (P_int rfl rfl rfl) ?_
     refine L_nl fun zB jD hs => ?_
     have hfr := hfr.ext hs
     have u3 := u3.ext hs
     have l5 := l5.ext hs
     clear hs
     refine EL_nil (thn_n ?_)
     rcases csome h with ⟨x5, h⟩ | ⟨x5, h⟩
     ·refine E_ct x5 rfl ?_
      refine E_seq (E_region (EL_at (.bool false) rfl rfl ?_))
      refine EL_nil (thn_n (E_ret (blk_r ?_)))
      refine thn_r ?_
      refine thn_r ?_
      refine blk_r ?_
      refine thn_r ?_
      obtain rfl := sinj h
      exact end1 rfl rfl (show _ = .bool false from rfl) ⟨_, hfr, rfl⟩
     ·refine E_cf x5 rfl ?_
      exact E_skip (blk_n (thn_n (dB () _ _ ⟨zB, hfr, k8, u3, l8, l5, t5⟩ h)))
    ·rintro _ cC uC ⟨mB, hfr, r8, v8, x8, a9, d9⟩ h
     refine E_region (EL_mv d9 rfl ?_)
     refine EL_in (.int .i64 ((w64 (o0 + (1 : Int))))) rfl rfl rfl rfl ?_
     refine EL_at (.int .i64 ((w64 (o0 + (1 : Int))))) rfl rfl ?_
     exact EL_nil (thn_n (yA ((w64 (o0 + (1 : Int)))) _ _ ⟨mB, hfr, r8, v8, x8, a9, rfl⟩ h))
  ·rintro _ mC vC ⟨aD, hfr⟩ h
   refine E_seq (E_region (EL_at (.bool true) rfl rfl ?_))
   refine EL_nil (thn_n (E_ret ?_))
   obtain rfl := sinj h
   exact end1 rfl rfl (show _ = .bool true from rfl) ⟨_, hfr, rfl⟩
def f30 (x0 : TieHarness) : Option (TieHarness) :=
 (f11 ((x0).Warps)).bind fun y8 =>
 some ((⟨(x0).Hooks, y8⟩ : TieHarness))
theorem en30 : Enters Try.prog 30 := enters_of Try.func30 (by kernel_rfl) rfl
theorem wk30 {gI : Gh} {wI : World} {x0 : TieHarness} {up0 : Value} (rp0 : RV gI.m wI x0 up0) {r : TieHarness} (h : f30 x0 = some r) : Fn Try.prog 30 #[up0] gI wI (fun m w v => RV m w (r) v) := by
 unfold f30 at h
 refine fn_of_E Try.func30 rfl (Nat.le_of_ble_eq_true rfl) fun g0 hm hfr => ?_
 have rp0 : RV g0.m wI x0 up0 := hm ▸ rp0
 show E _ 9 none _ _ _ _ _
 refine E_seq (E_region (EL_do .plain rfl (D_box (g := g0) rfl rp0 fun g1 w1 p1 hs q1 => ?_)))
 have hfr := hfr.ext hs
 refine EL_do .plain rfl (D_allocOc (g := g1) 2002 (⟨0, []⟩ : TieHarness) Try.zeroValue28 (fun m w => ⟨_, (rep_two rep_int rep_nil), rfl⟩) fun g2 w2 p2 hs b2 cb => ?_)
 have hfr := hfr.stp hs
 have q1 := q1.stp hs
 have y6 : OSF 2002 60201 1 g2 w2 3 28 ([] : List Int) p2 := cb.osf (by rfl)
 clear cb
 refine EL_nil (thn_n (E_seq ?_))
 have q3 := PT_field (part_TieHarness_0).1 q1
 refine L_load (x := .tmp 3) Try.isAgg3 Try.sizeOf3 q3 fun v4 r4 x5 => ?_
 obtain rfl := RV_int.1 r4
 have q5 := PT_field (part_TieHarness_1).1 q1
 refine L_load (x := .tmp 5) Try.isAgg26 Try.sizeOf26 q5 fun v6 r6 i6 => ?_
 obtain ⟨y8, x6, h⟩ := bsome h
 refine E_drawL (g := g2) (n := 5) [(4, (fun v g w => RV g.m w y8 v))] [0, 1, 2, 3, 4] rfl mixed (by kernel_rfl) (⟨fun _ => up_rv, trivial⟩) ?_
 refine L_p (fPtr p1 0) rfl rfl (P_fieldAddr at_28_0 rfl (PT.ptr q1)) ?_
 refine L_ld (c := .int .i64 ((x0).Hooks)) rfl rfl .plain (fun _ _ h => h.ch) x5 rfl ?_
 refine L_p (fPtr p1 1) rfl rfl (P_fieldAddr at_28_1 rfl (PT.ptr q1)) ?_
 refine L_ld (c := v6) rfl rfl .plain (fun _ _ h => h.ch) i6 rfl ?_
 refine L_do (φ := fun v g w => RV g.m w y8 v) rfl rfl .plain (fun g w hd => D_call (g := g) (vs := [v6]) en11 (.cons rfl .nil) (wk11 (r6.ext hd.1) x6) fun g' w' v hs hr => ⟨g', hs, hr⟩) (fun v7 hv => ?_)
 obtain ⟨_, _, _, rq7⟩ := hv
 refine L_nil fun g9 w9 hall => ?_
 have hs := hall.1
 have hfr := hfr.ext hs
 have b2 := b2.ext hs
 have o0 := (word_all (A := fun g w => RV g.m w y8 v7) 4 rfl hall)
 clear hs hall
 have u3 : RV g9.m _ (⟨(x0).Hooks, y8⟩ : TieHarness) (.agg (setCh [[.int .i64 0], [.slice none 0 0]] [(0, .int .i64 ((x0).Hooks)), (1, v7)]).flatten.toArray) := RV_build rfl (rep_pair (rfl) (rep_last (RV.cells o0)))
 generalize t5 : (Value.agg (setCh [[.int .i64 0], [.slice none 0 0]] [(0, .int .i64 ((x0).Hooks)), (1, v7)]).flatten.toArray) = l5 at u3
 refine EL_p l5 (t5 ▸ P_build (vs := [(0, .int .i64 ((x0).Hooks)), (1, v7)]) [[.int .i64 0], [.slice none 0 0]] lay_28 rfl rfl (.cons rfl (.cons rfl .nil)) ⟨⟨_, rfl, rfl⟩, ⟨⟨_, rfl, cells_size o0⟩, trivial⟩⟩) rfl ?_
 refine EL_do .plain rfl (D_storeOc (g := g9) (v := l5) Try.sizeOf28 rfl b2 rfl u3 fun i7 m7 hs b19 cb => ?_)
 clear cb
 have hfr := hfr.stp hs
 refine EL_nil (thn_n (E_ret ?_))
 obtain rfl := sinj h
 obtain ⟨ad20, cv20, hp20, hl20, cr20⟩ := ob_read Try.isAgg28 Try.sizeOf28 b19
 exact endm_c rfl rfl ((show _ = p2 from rfl).trans hp20) hl20 ⟨_, hfr, cr20⟩
def f31 (x0 : Design) : Option (Design) :=
 (f11 ((x0).Rows)).bind fun y8 =>
 some ((⟨(x0).Hooks, y8⟩ : Design))
theorem en31 : Enters Try.prog 31 := enters_of Try.func31 (by kernel_rfl) rfl
theorem wk31 {gI : Gh} {wI : World} {x0 : Design} {up0 : Value} (rp0 : RV gI.m wI x0 up0) {r : Design} (h : f31 x0 = some r) : Fn Try.prog 31 #[up0] gI wI (fun m w v => RV m w (r) v) := by
 unfold f31 at h
 refine fn_of_E Try.func31 rfl (Nat.le_of_ble_eq_true rfl) fun g0 hm hfr => ?_
 have rp0 : RV g0.m wI x0 up0 := hm ▸ rp0
 show E _ 9 none _ _ _ _ _
 refine E_seq (E_region (EL_do .plain rfl (D_box (g := g0) rfl rp0 fun g1 w1 p1 hs q1 => ?_)))
 have hfr := hfr.ext hs
 refine EL_do .plain rfl (D_allocOc (g := g1) 2002 (⟨0, []⟩ : Design) Try.zeroValue30 (fun m w => ⟨_, (rep_two rep_int rep_nil), rfl⟩) fun g2 w2 p2 hs b2 cb => ?_)
 have hfr := hfr.stp hs
 have q1 := q1.stp hs
 have y6 : OSF 2002 60201 1 g2 w2 3 30 ([] : List Int) p2 := cb.osf (by rfl)
 clear cb
 refine EL_nil (thn_n (E_seq ?_))
 have q3 := PT_field (part_Design_0).1 q1
 refine L_load (x := .tmp 3) Try.isAgg3 Try.sizeOf3 q3 fun v4 r4 x5 => ?_
 obtain rfl := RV_int.1 r4
 have q5 := PT_field (part_Design_1).1 q1
 refine L_load (x := .tmp 5) Try.isAgg26 Try.sizeOf26 q5 fun v6 r6 i6 => ?_
 obtain ⟨y8, x6, h⟩ := bsome h
 refine E_drawL (g := g2) (n := 5) [(4, (fun v g w => RV g.m w y8 v))] [0, 1, 2, 3, 4] rfl mixed (by kernel_rfl) (⟨fun _ => up_rv, trivial⟩) ?_
 refine L_p (fPtr p1 0) rfl rfl (P_fieldAddr at_30_0 rfl (PT.ptr q1)) ?_
 refine L_ld (c := .int .i64 ((x0).Hooks)) rfl rfl .plain (fun _ _ h => h.ch) x5 rfl ?_
 refine L_p (fPtr p1 1) rfl rfl (P_fieldAddr at_30_1 rfl (PT.ptr q1)) ?_
 refine L_ld (c := v6) rfl rfl .plain (fun _ _ h => h.ch) i6 rfl ?_
 refine L_do (φ := fun v g w => RV g.m w y8 v) rfl rfl .plain (fun g w hd => D_call (g := g) (vs := [v6]) en11 (.cons rfl .nil) (wk11 (r6.ext hd.1) x6) fun g' w' v hs hr => ⟨g', hs, hr⟩) (fun v7 hv => ?_)
 obtain ⟨_, _, _, rq7⟩ := hv
 refine L_nil fun g9 w9 hall => ?_
 have hs := hall.1
 have hfr := hfr.ext hs
 have b2 := b2.ext hs
 have o0 := (word_all (A := fun g w => RV g.m w y8 v7) 4 rfl hall)
 clear hs hall
 have u3 : RV g9.m _ (⟨(x0).Hooks, y8⟩ : Design) (.agg (setCh [[.int .i64 0], [.slice none 0 0]] [(0, .int .i64 ((x0).Hooks)), (1, v7)]).flatten.toArray) := RV_build rfl (rep_pair (rfl) (rep_last (RV.cells o0)))
 generalize t5 : (Value.agg (setCh [[.int .i64 0], [.slice none 0 0]] [(0, .int .i64 ((x0).Hooks)), (1, v7)]).flatten.toArray) = l5 at u3
 refine EL_p l5 (t5 ▸ P_build (vs := [(0, .int .i64 ((x0).Hooks)), (1, v7)]) [[.int .i64 0], [.slice none 0 0]] lay_30 rfl rfl (.cons rfl (.cons rfl .nil)) ⟨⟨_, rfl, rfl⟩, ⟨⟨_, rfl, cells_size o0⟩, trivial⟩⟩) rfl ?_
 refine EL_do .plain rfl (D_storeOc (g := g9) (v := l5) Try.sizeOf30 rfl b2 rfl u3 fun i7 m7 hs b19 cb => ?_)
 clear cb
 have hfr := hfr.stp hs
 refine EL_nil (thn_n (E_ret ?_))
 obtain rfl := sinj h
 obtain ⟨ad20, cv20, hp20, hl20, cr20⟩ := ob_read Try.isAgg30 Try.sizeOf30 b19
 exact endm_c rfl rfl ((show _ = p2 from rfl).trans hp20) hl20 ⟨_, hfr, cr20⟩
def f32 (x0 : List Str) (x1 : List Str) : Option (Bool) :=
 jn (σ := Unit) (fun _ =>
  jn (σ := Unit) (fun _ =>
   some (true)
   ) fun k53 =>
  lp (σ := Int) (fun k54 o0 =>
   jn (σ := Unit) (fun _ =>
    jn (σ := Unit) (fun _ =>
     k54 ((w64 (o0 + (1 : Int))))
     ) fun n9 =>
    (idx x0 o0).bind fun x6 =>
    (idx x1 o0).bind fun y6 =>
    bif (!((x6).b == (y6).b)) then
     some (false)
    else
     n9 ()
    ) fun k57 =>
   bif (decide (o0 < ((x0).length : Int))) then
    k57 ()
   else
    k53 ()
   ) big ((0 : Int))
  ) fun k2 =>
 bif (((x0).length : Int) != ((x1).length : Int)) then
  some (false)
 else
  k2 ()
theorem en32 : Enters Try.prog 32 := enters_of Try.func32 (by kernel_rfl) rfl
theorem wk32 {gI : Gh} {wI : World} {x0 : List Str} {x1 : List Str} {up0 : Value} (rp0 : RV gI.m wI x0 up0) {up1 : Value} (rp1 : RV gI.m wI x1 up1) {r : Bool} (h : f32 x0 x1 = some r) : Fn Try.prog 32 #[up0, up1] gI wI (fun _ _ v => v = .bool (r)) := by
 unfold f32 at h
 refine fn_of_E Try.func32 rfl (Nat.le_of_ble_eq_true rfl) fun g0 hm hfr => ?_
 have rp0 : RV g0.m wI x0 up0 := hm ▸ rp0
 have rp1 : RV g0.m wI x1 up1 := hm ▸ rp1
 show E _ 26 none _ _ _ _ _
 refine E_seq (E_region (EL_at (.bool false) rfl rfl ?_))
 refine EL_nil (thn_n (E_joinC h (fun (s : Unit) e w => ∃ (g : Gh) , Fr gI wI g w ∧ e 0 = up0 ∧ RV g.m w (x0 : List Str) up0 ∧ e 1 = up1 ∧ RV g.m w (x1 : List Str) up1) (fun X2 k2 hk2 h => ?_) ?_))
 ·refine E_seq (E_region (EL_mw up0 rfl rfl ?_))
  refine EL_p (.int .i64 ((x0).length : Int)) (P_len Try.underlying50 rfl rp0) rfl ?_
  refine EL_mw up1 rfl rfl ?_
  refine EL_p (.int .i64 ((x1).length : Int)) (P_len Try.underlying50 rfl rp1) rfl ?_
  refine EL_in (.bool ((((x0).length : Int) != ((x1).length : Int)))) rfl rfl rfl rfl ?_
  refine EL_nil (thn_n ?_)
  rcases csome h with ⟨hc3, h⟩ | ⟨hc3, h⟩
  ·refine E_ct hc3 rfl ?_
   refine E_seq (E_region (EL_at (.bool false) rfl rfl ?_))
   refine EL_nil (thn_n (E_ret (thn_r ?_)))
   obtain rfl := sinj h
   exact end1 rfl rfl (show _ = .bool false from rfl) ⟨_, hfr, rfl⟩
  ·refine E_cf hc3 rfl ?_
   exact E_skip (thn_n (hk2 () _ _ ⟨g0, hfr, rfl, rp0, rfl, rp1⟩ h))
 ·rintro _ bD w4 ⟨g4, hfr, y9, z9, bA, iA⟩ h
  refine E_joinC h (fun (s : Unit) e w => ∃ (g : Gh) , Fr gI wI g w) (fun X53 k53 rA h => ?_) ?_
  ·refine E_seq (E_region (EL_at (.int .i64 (0)) rfl rfl ?_))
   refine EL_nil (thn_n (E_block ?_))
   refine E_lp h (fun (s : Int) e w => ∃ (g : Gh) , Fr gI wI g w ∧ e 0 = up0 ∧ RV g.m w (x0 : List Str) up0 ∧ e 1 = up1 ∧ RV g.m w (x1 : List Str) up1 ∧ e 5 = .int .i64 (s)) ⟨g4, hfr, y9, z9, bA, iA, rfl⟩ (fun X54 k54 yA => ?_)
   rintro o0 qC cD ⟨u9, hfr, i7, m7, k9, l9, g8⟩ h
   refine E_joinC h (fun (s : Unit) e w => ∃ (g : Gh) , Fr gI wI g w ∧ e 0 = up0 ∧ RV g.m w (x0 : List Str) up0 ∧ e 1 = up1 ∧ RV g.m w (x1 : List Str) up1 ∧ e 5 = .int .i64 (o0)) (fun X57 k57 aB h => ?_) ?_
   ·refine E_seq (E_region (EL_mv g8 rfl ?_))
    refine EL_mv i7 rfl ?_
    refine EL_p (.int .i64 ((x0).length : Int)) (P_len Try.underlying50 rfl m7) rfl ?_
    refine EL_in (.bool ((decide (o0 < ((x0).length : Int))))) rfl rfl rfl rfl ?_
    refine EL_nil (thn_n ?_)
    rcases csome h with ⟨i6, h⟩ | ⟨i6, h⟩
    ·refine E_ct i6 rfl ?_
     exact E_skip (thn_n (aB () _ _ ⟨u9, hfr, i7, m7, k9, l9, g8⟩ h))
    ·refine E_cf i6 rfl ?_
     refine E_exit ?_
     refine thn_e ?_
     refine thn_e ?_
     refine blk_hit ?_
     exact thn_n (rA () _ _ ⟨u9, hfr⟩ h)
   ·rintro _ rC eD ⟨nB, hfr, k8, u3, l8, l5, t5⟩ h
    refine E_joinC h (fun (s : Unit) e w => ∃ (g : Gh) , Fr gI wI g w ∧ e 0 = up0 ∧ RV g.m w (x0 : List Str) up0 ∧ e 1 = up1 ∧ RV g.m w (x1 : List Str) up1 ∧ e 5 = .int .i64 (o0)) (fun X81 n9 dB h => ?_) ?_
    ·refine E_block ?_
     refine E_seq ?_
     obtain ⟨x6, m8, h⟩ := bsome h
     have oB := PT_idx u3 m8
     refine L_load (x := .tmp 19) Try.isAgg9 Try.sizeOf9 oB fun gD tB iB => ?_
     obtain rfl := RV_str.1 tB
     obtain ⟨y6, n8, h⟩ := bsome h
     have vB := PT_idx l5 n8
     refine L_load (x := .tmp 23) Try.isAgg9 Try.sizeOf9 vB fun iD yB lB => ?_
     obtain rfl := RV_str.1 yB
     refine E_drawL (g := nB) (n := 9) [] [0, 1, 2, 3, 4, 5, 6, 7, 8] rfl mixed (by kernel_rfl) trivial ?_
     refine L_p up0 rfl rfl (P_move k8) ?_
     refine L_p (.int .i64 (o0)) rfl rfl (P_move t5) ?_
     refine L_p (ePtr up0 o0 1) rfl rfl (P_indexAddr (α := Str) Try.underlying50 Try.sizeOf9 rfl u3 rfl m8) ?_
     refine L_ld (c := Str.v (x6)) rfl rfl .plain (fun _ _ h => h.ch) iB rfl ?_
     refine L_p up1 rfl rfl (P_move l8) ?_
     refine L_p (.int .i64 (o0)) rfl rfl (P_move t5) ?_
     refine L_p (ePtr up1 o0 1) rfl rfl (P_indexAddr (α := Str) Try.underlying50 Try.sizeOf9 rfl l5 rfl n8) ?_
     refine L_ld (c := Str.v (y6)) rfl rfl .plain (fun _ _ h => h.ch) lB rfl ?_
     refine L_p (.bool ((!((x6).b == (y6).b)))) rfl rfl (P_str rfl rfl rfl) ?_
     refine L_nl fun zB jD hs => ?_
     have hfr := hfr.ext hs
     have u3 := u3.ext hs
     have l5 := l5.ext hs
     clear hs
     refine EL_nil (thn_n ?_)
     rcases csome h with ⟨x5, h⟩ | ⟨x5, h⟩
     ·refine E_ct x5 rfl ?_
      refine E_seq (E_region (EL_at (.bool false) rfl rfl ?_))
      refine EL_nil (thn_n (E_ret (blk_r ?_)))
      refine thn_r ?_
      refine thn_r ?_
      refine blk_r ?_
      refine thn_r ?_
      obtain rfl := sinj h
      exact end1 rfl rfl (show _ = .bool false from rfl) ⟨_, hfr, rfl⟩
     ·refine E_cf x5 rfl ?_
      exact E_skip (blk_n (thn_n (dB () _ _ ⟨zB, hfr, k8, u3, l8, l5, t5⟩ h)))
    ·rintro _ cC uC ⟨mB, hfr, r8, v8, x8, a9, d9⟩ h
     refine E_region (EL_mv d9 rfl ?_)
     refine EL_in (.int .i64 ((w64 (o0 + (1 : Int))))) rfl rfl rfl rfl ?_
     refine EL_at (.int .i64 ((w64 (o0 + (1 : Int))))) rfl rfl ?_
     exact EL_nil (thn_n (yA ((w64 (o0 + (1 : Int)))) _ _ ⟨mB, hfr, r8, v8, x8, a9, rfl⟩ h))
  ·rintro _ mC vC ⟨aD, hfr⟩ h
   refine E_seq (E_region (EL_at (.bool true) rfl rfl ?_))
   refine EL_nil (thn_n (E_ret ?_))
   obtain rfl := sinj h
   exact end1 rfl rfl (show _ = .bool true from rfl) ⟨_, hfr, rfl⟩
def f54 (x0 : Loom) : Option (TieHarness) :=
 (rem64 (((x0).Hooks).toNat : Int) (12 : Int)).bind fun y5 =>
 Option.bind (α := TieHarness) (
  lp (σ := TieHarness × Int) (fun qC (l5, o0) =>
   jn (σ := Unit) (fun _ =>
    Option.bind (α := TieHarness) (
     Option.bind (α := Int) (
      bif (decide (o0 < (((x0).Warps).length : Int))) then
       (idx ((x0).Warps) o0).bind fun rA =>
       (rem64 ((rA).toNat : Int) (l5).Hooks).bind fun yA =>
       some (yA)
      else
       some ((0 : Int))
      ) fun l8 =>
     (apnd 8 ((l5).Warps) (([l8] : List Int))).bind fun yB =>
     some ({ l5 with Warps := yB })
     ) fun m8 =>
    qC (m8, (w64 (o0 + (1 : Int))))
    ) fun rC =>
   Option.bind (α := Bool) (
    bif (o0 == (0 : Int)) then
     some (true)
    else
     bif (decide (o0 < (((x0).Warps).length : Int))) then
      some ((decide (o0 < (30 : Int))))
     else
      some (false)
    ) fun y6 =>
   bif y6 then
    rC ()
   else
    some (l5)
   ) big ((⟨(w64 ((1 : Int) + y5)), []⟩ : TieHarness), (0 : Int))
  ) fun r8 =>
 some (r8)
theorem en54 : Enters Try.prog 54 := enters_of Try.func54 (by kernel_rfl) rfl
theorem wk54 {gI : Gh} {wI : World} {x0 : Loom} {up0 : Value} (rp0 : RV gI.m wI x0 up0) {r : TieHarness} (h : f54 x0 = some r) : Fn Try.prog 54 #[up0] gI wI (fun m w v => RV m w (r) v) := by
 unfold f54 at h
 refine fn_of_E Try.func54 rfl (Nat.le_of_ble_eq_true rfl) fun g0 hm hfr => ?_
 have rp0 : RV g0.m wI x0 up0 := hm ▸ rp0
 show E _ 48 none _ _ _ _ _
 refine E_seq (E_region (EL_do .plain rfl (D_box (g := g0) rfl rp0 fun g1 w1 p1 hs q1 => ?_)))
 have hfr := hfr.ext hs
 refine EL_do .plain rfl (D_allocOc (g := g1) 2002 (⟨0, []⟩ : TieHarness) Try.zeroValue28 (fun m w => ⟨_, (rep_two rep_int rep_nil), rfl⟩) fun g2 w2 p2 hs b2 cb => ?_)
 have hfr := hfr.stp hs
 have q1 := q1.stp hs
 have k9 : OSF 2002 60201 1 g2 w2 3 28 ([] : List Int) p2 := cb.osf (by rfl)
 clear cb
 refine EL_nil (thn_n (E_seq (E_region (EL_p (fPtr p1 0) (P_fieldAddr at_25_0 rfl (PT.ptr q1)) rfl ?_))))
 have q3 := PT_field (part_Loom_0).1 q1
 refine EL_do .plain rfl (D_load (g := g2) Try.isAgg5 Try.sizeOf5 rfl q3 fun v4 r4 => ?_)
 obtain rfl := RV_u8.1 r4
 refine EL_p (.int .i64 ((((x0).Hooks).toNat : Int))) (P_u8int Try.underlying5 Try.underlying3 rfl) rfl ?_
 obtain ⟨y5, hy5, h⟩ := bsome h
 refine EL_p (.int .i64 (y5)) (P_int rfl rfl (congrArg (Option.map (Value.int .i64)) hy5)) rfl ?_
 refine EL_in (.int .i64 ((w64 ((1 : Int) + y5)))) rfl rfl rfl rfl ?_
 have r6 : RV g2.m w2 (⟨(w64 ((1 : Int) + y5)), []⟩ : TieHarness) (.agg (setCh [[.int .i64 0], [.slice none 0 0]] [(0, .int .i64 ((w64 ((1 : Int) + y5))))]).flatten.toArray) := RV_build rfl (rep_pair (rfl) (rep_last (rep_nil)))
 generalize dF : (Value.agg (setCh [[.int .i64 0], [.slice none 0 0]] [(0, .int .i64 ((w64 ((1 : Int) + y5))))]).flatten.toArray) = v6 at r6
 refine EL_p v6 (dF ▸ P_build (vs := [(0, .int .i64 ((w64 ((1 : Int) + y5))))]) [[.int .i64 0], [.slice none 0 0]] lay_28 rfl rfl (.cons rfl .nil) ⟨⟨_, rfl, rfl⟩, trivial⟩) rfl ?_
 refine EL_do .plain rfl (D_allocOc (g := g2) 2003 (⟨0, []⟩ : TieHarness) Try.zeroValue28 (fun m w => ⟨_, (rep_two rep_int rep_nil), rfl⟩) fun g7 w7 p7 hs b7 cb => ?_)
 have hfr := hfr.stp hs
 have q1 := q1.stp hs
 have k9 := k9.stp hs rfl
 have b2 := b2.stp hs rfl
 have r6 := r6.stp hs
 have zG : OSF 2003 60301 1 g7 w7 3 28 ([] : List Int) p7 := cb.osf (by rfl)
 clear cb
 refine EL_do .plain rfl (D_storeOc (g := g7) (v := v6) Try.sizeOf28 rfl b7 rfl r6 fun g8 w8 hs b8 cb => ?_)
 have eF : OSF 2003 60301 1 g8 w8 3 28 ([] : List Int) p7 := cb.osf (by rw [← dF]; rfl)
 clear cb
 have hfr := hfr.stp hs
 have q1 := q1.stp hs
 have k9 := k9.stp hs rfl
 have b2 := b2.stp hs rfl
 refine EL_nil (thn_n ?_)
 obtain ⟨r8, hx, h⟩ := bsome h
 refine E_join (fun e w => ∃ (g : Gh) , Fr gI wI g w ∧ e 2 = p2 ∧ OB 2002 g w 28 ((⟨0, []⟩ : TieHarness) : TieHarness) p2 ∧ OSF 2002 60201 1 g w 3 28 (((⟨0, []⟩ : TieHarness)).Warps) p2 ∧ e 3 = p7 ∧ OB 2003 g w 28 (r8 : TieHarness) p7 ∧ OSF 2003 60301 1 g w 3 28 ((r8).Warps) p7) (fun Q' hQ => ?_) (fun kG aH hR => ?_)
 ·replace h := hx
  clear hx
  refine E_seq (E_region (EL_at (.int .i64 (0)) rfl rfl ?_))
  refine EL_nil (thn_n (E_block ?_))
  refine E_lp h (fun (s : TieHarness × Int) e w => ∃ (g : Gh) , Fr gI wI g w ∧ e 1 = p1 ∧ PT g.m w (x0 : Loom) p1 ∧ e 2 = p2 ∧ OB 2002 g w 28 ((⟨0, []⟩ : TieHarness) : TieHarness) p2 ∧ OSF 2002 60201 1 g w 3 28 (((⟨0, []⟩ : TieHarness)).Warps) p2 ∧ e 3 = p7 ∧ OB 2003 g w 28 (s.1 : TieHarness) p7 ∧ OSF 2003 60301 1 g w 3 28 ((s.1).Warps) p7 ∧ e 4 = .int .i64 (s.2)) ⟨g8, hfr, rfl, q1, rfl, b2, k9, rfl, b8, eF, rfl⟩ (fun X175 qC oE => ?_)
  rintro ⟨l5, o0⟩ lG cH ⟨aB, hfr, v8, n8, l9, n9, u2_1_176, u9, y9, u3_1_176, i7⟩ h
  refine E_joinC h (fun (s : Unit) e w => ∃ (g : Gh) , Fr gI wI g w ∧ e 1 = p1 ∧ PT g.m w (x0 : Loom) p1 ∧ e 2 = p2 ∧ OB 2002 g w 28 ((⟨0, []⟩ : TieHarness) : TieHarness) p2 ∧ OSF 2002 60201 1 g w 3 28 (((⟨0, []⟩ : TieHarness)).Warps) p2 ∧ e 3 = p7 ∧ OB 2003 g w 28 (l5 : TieHarness) p7 ∧ OSF 2003 60301 1 g w 3 28 ((l5).Warps) p7 ∧ e 4 = .int .i64 (o0)) (fun X187 rC rE h => ?_) ?_
  ·obtain ⟨y6, hx, h⟩ := bsome h
   refine E_join (fun e w => ∃ (g : Gh) , Fr gI wI g w ∧ e 1 = p1 ∧ PT g.m w (x0 : Loom) p1 ∧ e 2 = p2 ∧ OB 2002 g w 28 ((⟨0, []⟩ : TieHarness) : TieHarness) p2 ∧ OSF 2002 60201 1 g w 3 28 (((⟨0, []⟩ : TieHarness)).Warps) p2 ∧ e 3 = p7 ∧ OB 2003 g w 28 (l5 : TieHarness) p7 ∧ OSF 2003 60301 1 g w 3 28 ((l5).Warps) p7 ∧ e 4 = .int .i64 (o0) ∧ e 24 = .bool (y6)) (fun Q' hQ => ?_) (fun mG dH hR => ?_)
   ·replace h := hx
    clear hx
    refine E_region (EL_mv i7 rfl ?_)
    refine EL_in (.bool ((o0 == (0 : Int)))) rfl rfl rfl rfl ?_
    refine EL_mw (.bool ((o0 == (0 : Int)))) rfl rfl ?_
    rcases csome h with ⟨u3, h⟩ | ⟨u3, h⟩
    ·refine EL_s rfl rfl u3 rfl rfl ?_
     iterate 5 refine EL_s rfl rfl u3 rfl rfl ?_
     refine EL_skip (.off rfl rfl) rfl ?_
     refine EL_skip (.off rfl rfl) rfl ?_
     refine EL_s rfl rfl u3 rfl rfl ?_
     refine EL_p (.bool true) (P_pick (b := (o0 == (0 : Int))) rfl (pick_t u3 rfl)) rfl ?_
     refine EL_nil ?_
     obtain rfl := sinj h
     exact hQ _ _ ⟨aB, hfr, v8, n8, l9, n9, u2_1_176, u9, y9, u3_1_176, i7, rfl⟩
    ·refine EL_y (.int .i64 (o0)) (P_move i7) rfl rfl u3 rfl ?_
     refine EL_y (fPtr p1 1) (P_fieldAddr at_25_1 v8 (PT.ptr n8)) rfl rfl u3 rfl ?_
     have rF := PT_field (part_Loom_1).1 n8
     refine EL_do (.yes2 rfl rfl u3) rfl (D_load (g := aB) Try.isAgg22 Try.sizeOf22 rfl rF fun gH sF => ?_)
     refine EL_y (.int .i64 (((x0).Warps).length : Int)) (P_len Try.underlying22 rfl sF) rfl rfl u3 rfl ?_
     refine EL_y (.bool ((decide (o0 < (((x0).Warps).length : Int))))) (P_int rfl rfl rfl) rfl rfl u3 rfl ?_
     refine EL_y (.bool ((decide (o0 < (((x0).Warps).length : Int))))) (P_move rfl) rfl rfl u3 rfl ?_
     rcases csome h with ⟨k8, h⟩ | ⟨k8, h⟩
     ·refine EL_y (.int .i64 (o0)) (P_move i7) rfl rfl k8 rfl ?_
      refine EL_y (.bool ((decide (o0 < (30 : Int))))) (P_int rfl rfl rfl) rfl rfl k8 rfl ?_
      refine EL_y (.bool ((decide (o0 < (30 : Int))))) (P_pick (b := (decide (o0 < (((x0).Warps).length : Int)))) rfl (pick_t k8 rfl)) rfl rfl u3 rfl ?_
      refine EL_p (.bool ((decide (o0 < (30 : Int))))) (P_pick (b := (o0 == (0 : Int))) rfl (pick_f u3 rfl)) rfl ?_
      refine EL_nil ?_
      obtain rfl := sinj h
      exact hQ _ _ ⟨aB, hfr, v8, n8, l9, n9, u2_1_176, u9, y9, u3_1_176, i7, rfl⟩
     ·refine EL_s rfl rfl k8 rfl rfl ?_
      refine EL_s rfl rfl k8 rfl rfl ?_
      refine EL_y (.bool false) (P_pick (b := (decide (o0 < (((x0).Warps).length : Int)))) rfl (pick_f k8 rfl)) rfl rfl u3 rfl ?_
      refine EL_p (.bool false) (P_pick (b := (o0 == (0 : Int))) rfl (pick_f u3 rfl)) rfl ?_
      refine EL_nil ?_
      obtain rfl := sinj h
      exact hQ _ _ ⟨aB, hfr, v8, n8, l9, n9, u2_1_176, u9, y9, u3_1_176, i7, rfl⟩
   ·clear hx
    obtain ⟨uC, hfr, vC, aD, lB, mB, u2_1_196, nB, oB, u3_1_196, bD, iA⟩ := hR
    rcases csome h with ⟨dB, h⟩ | ⟨dB, h⟩
    ·refine E_cond_true (Eq.trans (show ev _ _ = .bool (y6) from iA) (congrArg Value.bool dB)) ?_
     exact E_skip (thn_n (rE () _ _ ⟨uC, hfr, vC, aD, lB, mB, u2_1_196, nB, oB, u3_1_196, bD⟩ h))
    ·refine E_cond_false (Eq.trans (show ev _ _ = .bool (y6) from iA) (congrArg Value.bool dB)) ?_
     refine E_exit ?_
     refine thn_e ?_
     refine thn_e ?_
     refine blk_hit ?_
     obtain rfl := sinj h
     exact hQ _ _ ⟨uC, hfr, lB, mB, u2_1_196, nB, oB, u3_1_196⟩
  ·rintro _ sG iH ⟨zB, hfr, x8, t5, tB, a9, u2_1_198, z9, m7, u3_1_198, d9⟩ h
   obtain ⟨m8, hx, h⟩ := bsome h
   refine E_join (fun e w => ∃ (g : Gh) , Fr gI wI g w ∧ e 1 = p1 ∧ PT g.m w (x0 : Loom) p1 ∧ e 2 = p2 ∧ OB 2002 g w 28 ((⟨0, []⟩ : TieHarness) : TieHarness) p2 ∧ OSF 2002 60201 1 g w 3 28 (((⟨0, []⟩ : TieHarness)).Warps) p2 ∧ e 3 = p7 ∧ OB 2003 g w 28 (m8 : TieHarness) p7 ∧ OSF 2003 60301 1 g w 3 28 ((m8).Warps) p7 ∧ e 4 = .int .i64 (o0)) (fun Q' hQ => ?_) (fun xG jH hR => ?_)
   ·replace h := hx
    clear hx
    refine E_block ?_
    refine E_seq (E_region (EL_at (.int .i64 (0)) rfl rfl ?_))
    refine EL_nil (thn_n ?_)
    obtain ⟨l8, hx, h⟩ := bsome h
    refine E_join (fun e w => ∃ (g : Gh) , Fr gI wI g w ∧ e 1 = p1 ∧ PT g.m w (x0 : Loom) p1 ∧ e 2 = p2 ∧ OB 2002 g w 28 ((⟨0, []⟩ : TieHarness) : TieHarness) p2 ∧ OSF 2002 60201 1 g w 3 28 (((⟨0, []⟩ : TieHarness)).Warps) p2 ∧ e 3 = p7 ∧ OB 2003 g w 28 (l5 : TieHarness) p7 ∧ OSF 2003 60301 1 g w 3 28 ((l5).Warps) p7 ∧ e 4 = .int .i64 (o0) ∧ e 5 = .int .i64 (l8)) (fun Q' hQ => ?_) (fun yG kH hR => ?_)
    ·replace h := hx
     clear hx
     refine E_seq (E_region (EL_mv d9 rfl ?_))
     refine EL_p (fPtr p1 1) (P_fieldAddr at_25_1 x8 (PT.ptr t5)) rfl ?_
     have tF := PT_field (part_Loom_1).1 t5
     refine EL_do .plain rfl (D_load (g := zB) Try.isAgg22 Try.sizeOf22 rfl tF fun lH uF => ?_)
     refine EL_p (.int .i64 (((x0).Warps).length : Int)) (P_len Try.underlying22 rfl uF) rfl ?_
     refine EL_p (.bool ((decide (o0 < (((x0).Warps).length : Int))))) (P_int rfl rfl rfl) rfl ?_
     refine EL_nil (thn_n ?_)
     rcases csome h with ⟨iB, h⟩ | ⟨iB, h⟩
     ·refine E_ct iB rfl ?_
      have vF := PT_field (part_Loom_1).1 t5
      refine L_load (x := .tmp 32) Try.isAgg22 Try.sizeOf22 vF fun cD eD uE => ?_
      obtain ⟨rA, mC, h⟩ := bsome h
      have xF := PT_idx eD mC
      refine L_load (x := .tmp 35) Try.isAgg5 Try.sizeOf5 xF fun mH yF vE => ?_
      obtain rfl := RV_u8.1 yF
      refine L_loadO (x := .tmp 38) part_TieHarness_0.1 Try.isAgg3 Try.sizeOf3 m7 fun nH zF xE => ?_
      obtain rfl := RV_int.1 zF
      obtain ⟨yA, yE, h⟩ := bsome h
      refine E_drawL (g := zB) (n := 10) [] [0, 1, 2, 3, 4, 5, 6, 7, 8, 9] rfl mixed (by kernel_rfl) trivial ?_
      refine L_p (fPtr p1 1) rfl rfl (P_fieldAddr at_25_1 x8 (PT.ptr t5)) ?_
      refine L_ld (c := cD) rfl rfl .plain (fun _ _ h => h.ch) uE rfl ?_
      refine L_p (.int .i64 (o0)) rfl rfl (P_move d9) ?_
      refine L_p (ePtr cD o0 1) rfl rfl (P_indexAddr (α := UInt8) Try.underlying22 Try.sizeOf5 rfl eD rfl mC) ?_
      refine L_ld (c := .int .u8 (UInt8.toNat (rA))) rfl rfl .plain (fun _ _ h => h.ch) vE rfl ?_
      refine L_p (.int .i64 (((rA).toNat : Int))) rfl rfl (P_u8int Try.underlying5 Try.underlying3 rfl) ?_
      refine L_p (fPtr p7 0) rfl rfl (P_fieldAddr at_28_0 z9 (OB.ptr m7)) ?_
      refine L_ld (c := .int .i64 ((l5).Hooks)) rfl rfl .plain (fun _ _ h => ⟨h.ch, fun b hb _ => h.below.block b hb⟩) xE rfl ?_
      refine L_p (.int .i64 (yA)) rfl rfl (P_int rfl rfl (congrArg (Option.map (Value.int .i64)) yE)) ?_
      refine L_p (.int .i64 (yA)) rfl rfl (P_assign rfl) ?_
      refine L_nl fun aG oH hs => ?_
      have hfr := hfr.ext hs
      have t5 := t5.ext hs
      have u2_1_198 := u2_1_198.ext hs
      have a9 := a9.ext hs
      have u3_1_198 := u3_1_198.ext hs
      have m7 := m7.ext hs
      clear hs
      refine EL_nil ?_
      obtain rfl := sinj h
      exact hQ _ _ ⟨aG, hfr, x8, t5, tB, a9, u2_1_198, z9, m7, u3_1_198, d9, rfl⟩
     ·refine E_cf iB rfl ?_
      refine E_skip ?_
      obtain rfl := sinj h
      exact hQ _ _ ⟨zB, hfr, x8, t5, tB, a9, u2_1_198, z9, m7, u3_1_198, d9, rfl⟩
    ·clear hx
     obtain ⟨gD, hfr, iD, i6, jD, x6, u2_1_331, bA, x5, u3_1_331, lD, nD⟩ := hR
     refine E_region (EL_p (fPtr p7 1) (P_fieldAddr at_28_1 bA (OB.ptr x5)) rfl ?_)
     refine EL_do .plain rfl (D_loadFS (g := gD) part_TieHarness_1.1 Try.isAgg26 Try.sizeOf26 rfl x5 u3_1_331 fun pH cC o333 => ?_)
     refine EL_mv nD rfl ?_
     refine EL_do .plain rfl (D_buildSlice (g := gD) 3044 (xs := ([l8] : List Int)) (vs := [.int .i64 (l8)]) Try.underlying26 Try.sizeOf3 Try.zeroValue3 rfl rfl (.cons rfl .nil) (RVs.cons (RV_int.2 rfl) RVs.nil) rfl rfl fun bG qH sH hs o334 cG hxt hfl => ?_)
     have hfr := hfr.stp hs
     have i6 := i6.stp hs
     have u2_1_331 := u2_1_331.stp hs rfl
     have x6 := x6.stp hs rfl
     have x5 := x5.stp hs rfl
     have cC := cC.stp hs
     have o333 := o333.stp hs rfl
     obtain ⟨yB, zE, h⟩ := bsome h
     refine EL_do .plain rfl (D_append (g := bG) (i := 60301) Try.underlying26 info_3 rfl rfl o333 cC rfl cG zE fun eG tH uH hs o335 oD _ => ?_)
     have hfr := hfr.stp hs
     have i6 := i6.stp hs
     have u2_1_331 := u2_1_331.stp hs rfl
     have x6 := x6.stp hs rfl
     have x5 := x5.stp hs rfl
     refine EL_p (fPtr p7 1) (P_fieldAddr at_28_1 bA (OB.ptr x5)) rfl ?_
     refine EL_do .plain rfl (D_storeFc (g := eG) part_TieHarness_1 Try.sizeOf26 rfl x5 rfl oD fun gG xH hs b338 rst hos => ?_)
     have sD := hos _ _ 60301 3 (yB : List Int) (rv_cells1 oD) rfl o335
     clear rst hos
     have hfr := hfr.stp hs
     have i6 := i6.stp hs
     have u2_1_331 := u2_1_331.stp hs rfl
     have x6 := x6.stp hs rfl
     refine EL_nil (blk_n ?_)
     obtain rfl := sinj h
     exact hQ _ _ ⟨gG, hfr, iD, i6, jD, x6, u2_1_331, bA, b338, sD, lD⟩
   ·clear hx
    obtain ⟨hG, hfr, tD, uD, vD, xD, u2_1_339, yD, zD, u3_1_339, aE⟩ := hR
    refine E_region (EL_mv aE rfl ?_)
    refine EL_in (.int .i64 ((w64 (o0 + (1 : Int))))) rfl rfl rfl rfl ?_
    refine EL_at (.int .i64 ((w64 (o0 + (1 : Int))))) rfl rfl ?_
    exact EL_nil (thn_n (oE (m8, (w64 (o0 + (1 : Int)))) _ _ ⟨hG, hfr, tD, uD, vD, xD, u2_1_339, yD, zD, u3_1_339, rfl⟩ h))
 ·clear hx
  obtain ⟨bE, hfr, vB, iE, u2_1_340, lE, mE, u3_1_340⟩ := hR
  refine E_seq (E_region (EL_do .plain rfl (D_loadO (g := bE) Try.isAgg28 Try.sizeOf28 lE mE fun iG jG => ?_)))
  refine EL_do .plain rfl (D_storeOc (g := bE) (v := iG) Try.sizeOf28 vB iE rfl jG fun yH zH hs b342 cb => ?_)
  clear cb
  have hfr := hfr.stp hs
  refine EL_nil (thn_n (E_ret ?_))
  obtain rfl := sinj h
  obtain ⟨ad343, cv343, hp343, cF, cr343⟩ := ob_read Try.isAgg28 Try.sizeOf28 b342
  exact endm_c rfl rfl ((show _ = p2 from vB).trans hp343) cF ⟨_, hfr, cr343⟩
def f55 (x0 : Loom) : Option (Design) :=
 (rem64 (((x0).Hooks).toNat : Int) (12 : Int)).bind fun y5 =>
 Option.bind (α := Design) (
  lp (σ := Design × Int) (fun rE (t5, o0) =>
   jn (σ := Unit) (fun _ =>
    Option.bind (α := Design) (
     Option.bind (α := Int) (
      bif (decide (o0 < (((x0).Rows).length : Int))) then
       (idx ((x0).Rows) o0).bind fun n9 =>
       some (((n9).toNat : Int))
      else
       some ((21 : Int))
      ) fun x6 =>
     (shl64 (1 : Int) ((wu64 (t5).Hooks))).bind fun y161 =>
     (apnd 8 ((t5).Rows) (([(bit64 .and x6 (w64 (y161 - (1 : Int))))] : List Int))).bind fun vB =>
     some ({ t5 with Rows := vB })
     ) fun k8 =>
    rE (k8, (w64 (o0 + (1 : Int))))
    ) fun qC =>
   Option.bind (α := Bool) (
    bif (o0 == (0 : Int)) then
     some (true)
    else
     bif (decide (o0 < (((x0).Rows).length : Int))) then
      some ((decide (o0 < (10 : Int))))
     else
      some (false)
    ) fun y6 =>
   bif y6 then
    qC ()
   else
    some (t5)
   ) big ((⟨(w64 ((1 : Int) + y5)), []⟩ : Design), (0 : Int))
  ) fun m8 =>
 some (m8)
theorem en55 : Enters Try.prog 55 := enters_of Try.func55 (by kernel_rfl) rfl
theorem wk55 {gI : Gh} {wI : World} {x0 : Loom} {up0 : Value} (rp0 : RV gI.m wI x0 up0) {r : Design} (h : f55 x0 = some r) : Fn Try.prog 55 #[up0] gI wI (fun m w v => RV m w (r) v) := by
 unfold f55 at h
 refine fn_of_E Try.func55 rfl (Nat.le_of_ble_eq_true rfl) fun g0 hm hfr => ?_
 have rp0 : RV g0.m wI x0 up0 := hm ▸ rp0
 show E _ 51 none _ _ _ _ _
 refine E_seq (E_region (EL_do .plain rfl (D_box (g := g0) rfl rp0 fun g1 w1 p1 hs q1 => ?_)))
 have hfr := hfr.ext hs
 refine EL_do .plain rfl (D_allocOc (g := g1) 2002 (⟨0, []⟩ : Design) Try.zeroValue30 (fun m w => ⟨_, (rep_two rep_int rep_nil), rfl⟩) fun g2 w2 p2 hs b2 cb => ?_)
 have hfr := hfr.stp hs
 have q1 := q1.stp hs
 have d9 : OSF 2002 60201 1 g2 w2 3 30 ([] : List Int) p2 := cb.osf (by rfl)
 clear cb
 refine EL_nil (thn_n (E_seq (E_region (EL_p (fPtr p1 0) (P_fieldAddr at_25_0 rfl (PT.ptr q1)) rfl ?_))))
 have q3 := PT_field (part_Loom_0).1 q1
 refine EL_do .plain rfl (D_load (g := g2) Try.isAgg5 Try.sizeOf5 rfl q3 fun v4 r4 => ?_)
 obtain rfl := RV_u8.1 r4
 refine EL_p (.int .i64 ((((x0).Hooks).toNat : Int))) (P_u8int Try.underlying5 Try.underlying3 rfl) rfl ?_
 obtain ⟨y5, hy5, h⟩ := bsome h
 refine EL_p (.int .i64 (y5)) (P_int rfl rfl (congrArg (Option.map (Value.int .i64)) hy5)) rfl ?_
 refine EL_in (.int .i64 ((w64 ((1 : Int) + y5)))) rfl rfl rfl rfl ?_
 have r6 : RV g2.m w2 (⟨(w64 ((1 : Int) + y5)), []⟩ : Design) (.agg (setCh [[.int .i64 0], [.slice none 0 0]] [(0, .int .i64 ((w64 ((1 : Int) + y5))))]).flatten.toArray) := RV_build rfl (rep_pair (rfl) (rep_last (rep_nil)))
 generalize uE : (Value.agg (setCh [[.int .i64 0], [.slice none 0 0]] [(0, .int .i64 ((w64 ((1 : Int) + y5))))]).flatten.toArray) = v6 at r6
 refine EL_p v6 (uE ▸ P_build (vs := [(0, .int .i64 ((w64 ((1 : Int) + y5))))]) [[.int .i64 0], [.slice none 0 0]] lay_30 rfl rfl (.cons rfl .nil) ⟨⟨_, rfl, rfl⟩, trivial⟩) rfl ?_
 refine EL_do .plain rfl (D_allocOc (g := g2) 2003 (⟨0, []⟩ : Design) Try.zeroValue30 (fun m w => ⟨_, (rep_two rep_int rep_nil), rfl⟩) fun g7 w7 p7 hs b7 cb => ?_)
 have hfr := hfr.stp hs
 have q1 := q1.stp hs
 have d9 := d9.stp hs rfl
 have b2 := b2.stp hs rfl
 have r6 := r6.stp hs
 have kG : OSF 2003 60301 1 g7 w7 3 30 ([] : List Int) p7 := cb.osf (by rfl)
 clear cb
 refine EL_do .plain rfl (D_storeOc (g := g7) (v := v6) Try.sizeOf30 rfl b7 rfl r6 fun g8 w8 hs b8 cb => ?_)
 have vE : OSF 2003 60301 1 g8 w8 3 30 ([] : List Int) p7 := cb.osf (by rw [← uE]; rfl)
 clear cb
 have hfr := hfr.stp hs
 have q1 := q1.stp hs
 have d9 := d9.stp hs rfl
 have b2 := b2.stp hs rfl
 refine EL_nil (thn_n ?_)
 obtain ⟨m8, hx, h⟩ := bsome h
 refine E_join (fun e w => ∃ (g : Gh) , Fr gI wI g w ∧ e 2 = p2 ∧ OB 2002 g w 30 ((⟨0, []⟩ : Design) : Design) p2 ∧ OSF 2002 60201 1 g w 3 30 (((⟨0, []⟩ : Design)).Rows) p2 ∧ e 3 = p7 ∧ OB 2003 g w 30 (m8 : Design) p7 ∧ OSF 2003 60301 1 g w 3 30 ((m8).Rows) p7) (fun Q' hQ => ?_) (fun eG lG hR => ?_)
 ·replace h := hx
  clear hx
  refine E_seq (E_region (EL_at (.int .i64 (0)) rfl rfl ?_))
  refine EL_nil (thn_n (E_block ?_))
  refine E_lp h (fun (s : Design × Int) e w => ∃ (g : Gh) , Fr gI wI g w ∧ e 1 = p1 ∧ PT g.m w (x0 : Loom) p1 ∧ e 2 = p2 ∧ OB 2002 g w 30 ((⟨0, []⟩ : Design) : Design) p2 ∧ OSF 2002 60201 1 g w 3 30 (((⟨0, []⟩ : Design)).Rows) p2 ∧ e 3 = p7 ∧ OB 2003 g w 30 (s.1 : Design) p7 ∧ OSF 2003 60301 1 g w 3 30 ((s.1).Rows) p7 ∧ e 4 = .int .i64 (s.2)) ⟨g8, hfr, rfl, q1, rfl, b2, d9, rfl, b8, vE, rfl⟩ (fun X89 rE xE => ?_)
  rintro ⟨t5, o0⟩ mG qH ⟨cC, hfr, a9, n8, u9, y9, u2_1_90, z9, bA, u3_1_90, l8⟩ h
  refine E_joinC h (fun (s : Unit) e w => ∃ (g : Gh) , Fr gI wI g w ∧ e 1 = p1 ∧ PT g.m w (x0 : Loom) p1 ∧ e 2 = p2 ∧ OB 2002 g w 30 ((⟨0, []⟩ : Design) : Design) p2 ∧ OSF 2002 60201 1 g w 3 30 (((⟨0, []⟩ : Design)).Rows) p2 ∧ e 3 = p7 ∧ OB 2003 g w 30 (t5 : Design) p7 ∧ OSF 2003 60301 1 g w 3 30 ((t5).Rows) p7 ∧ e 4 = .int .i64 (o0)) (fun X101 qC iE h => ?_) ?_
  ·obtain ⟨y6, hx, h⟩ := bsome h
   refine E_join (fun e w => ∃ (g : Gh) , Fr gI wI g w ∧ e 1 = p1 ∧ PT g.m w (x0 : Loom) p1 ∧ e 2 = p2 ∧ OB 2002 g w 30 ((⟨0, []⟩ : Design) : Design) p2 ∧ OSF 2002 60201 1 g w 3 30 (((⟨0, []⟩ : Design)).Rows) p2 ∧ e 3 = p7 ∧ OB 2003 g w 30 (t5 : Design) p7 ∧ OSF 2003 60301 1 g w 3 30 ((t5).Rows) p7 ∧ e 4 = .int .i64 (o0) ∧ e 24 = .bool (y6)) (fun Q' hQ => ?_) (fun gG sG hR => ?_)
   ·replace h := hx
    clear hx
    refine E_region (EL_mv l8 rfl ?_)
    refine EL_in (.bool ((o0 == (0 : Int)))) rfl rfl rfl rfl ?_
    refine EL_mw (.bool ((o0 == (0 : Int)))) rfl rfl ?_
    rcases csome h with ⟨u3, h⟩ | ⟨u3, h⟩
    ·refine EL_s rfl rfl u3 rfl rfl ?_
     iterate 5 refine EL_s rfl rfl u3 rfl rfl ?_
     refine EL_skip (.off rfl rfl) rfl ?_
     refine EL_skip (.off rfl rfl) rfl ?_
     refine EL_s rfl rfl u3 rfl rfl ?_
     refine EL_p (.bool true) (P_pick (b := (o0 == (0 : Int))) rfl (pick_t u3 rfl)) rfl ?_
     refine EL_nil ?_
     obtain rfl := sinj h
     exact hQ _ _ ⟨cC, hfr, a9, n8, u9, y9, u2_1_90, z9, bA, u3_1_90, l8, rfl⟩
    ·refine EL_y (.int .i64 (o0)) (P_move l8) rfl rfl u3 rfl ?_
     refine EL_y (fPtr p1 2) (P_fieldAddr at_25_2 a9 (PT.ptr n8)) rfl rfl u3 rfl ?_
     have yE := PT_field (part_Loom_2).1 n8
     refine EL_do (.yes2 rfl rfl u3) rfl (D_load (g := cC) Try.isAgg23 Try.sizeOf23 rfl yE fun xG zE => ?_)
     refine EL_y (.int .i64 (((x0).Rows).length : Int)) (P_len Try.underlying23 rfl zE) rfl rfl u3 rfl ?_
     refine EL_y (.bool ((decide (o0 < (((x0).Rows).length : Int))))) (P_int rfl rfl rfl) rfl rfl u3 rfl ?_
     refine EL_y (.bool ((decide (o0 < (((x0).Rows).length : Int))))) (P_move rfl) rfl rfl u3 rfl ?_
     rcases csome h with ⟨m7, h⟩ | ⟨m7, h⟩
     ·refine EL_y (.int .i64 (o0)) (P_move l8) rfl rfl m7 rfl ?_
      refine EL_y (.bool ((decide (o0 < (10 : Int))))) (P_int rfl rfl rfl) rfl rfl m7 rfl ?_
      refine EL_y (.bool ((decide (o0 < (10 : Int))))) (P_pick (b := (decide (o0 < (((x0).Rows).length : Int)))) rfl (pick_t m7 rfl)) rfl rfl u3 rfl ?_
      refine EL_p (.bool ((decide (o0 < (10 : Int))))) (P_pick (b := (o0 == (0 : Int))) rfl (pick_f u3 rfl)) rfl ?_
      refine EL_nil ?_
      obtain rfl := sinj h
      exact hQ _ _ ⟨cC, hfr, a9, n8, u9, y9, u2_1_90, z9, bA, u3_1_90, l8, rfl⟩
     ·refine EL_s rfl rfl m7 rfl rfl ?_
      refine EL_s rfl rfl m7 rfl rfl ?_
      refine EL_y (.bool false) (P_pick (b := (decide (o0 < (((x0).Rows).length : Int)))) rfl (pick_f m7 rfl)) rfl rfl u3 rfl ?_
      refine EL_p (.bool false) (P_pick (b := (o0 == (0 : Int))) rfl (pick_f u3 rfl)) rfl ?_
      refine EL_nil ?_
      obtain rfl := sinj h
      exact hQ _ _ ⟨cC, hfr, a9, n8, u9, y9, u2_1_90, z9, bA, u3_1_90, l8, rfl⟩
   ·clear hx
    obtain ⟨rC, hfr, uC, vC, yA, aB, u2_1_110, dB, iB, u3_1_110, aD, l9⟩ := hR
    rcases csome h with ⟨iA, h⟩ | ⟨iA, h⟩
    ·refine E_cond_true (Eq.trans (show ev _ _ = .bool (y6) from l9) (congrArg Value.bool iA)) ?_
     exact E_skip (thn_n (iE () _ _ ⟨rC, hfr, uC, vC, yA, aB, u2_1_110, dB, iB, u3_1_110, aD⟩ h))
    ·refine E_cond_false (Eq.trans (show ev _ _ = .bool (y6) from l9) (congrArg Value.bool iA)) ?_
     refine E_exit ?_
     refine thn_e ?_
     refine thn_e ?_
     refine blk_hit ?_
     obtain rfl := sinj h
     exact hQ _ _ ⟨rC, hfr, yA, aB, u2_1_110, dB, iB, u3_1_110⟩
  ·rintro _ hG yG ⟨k9, hfr, r8, i7, lB, mB, u2_1_112, nB, oB, u3_1_112, v8⟩ h
   obtain ⟨k8, hx, h⟩ := bsome h
   refine E_join (fun e w => ∃ (g : Gh) , Fr gI wI g w ∧ e 1 = p1 ∧ PT g.m w (x0 : Loom) p1 ∧ e 2 = p2 ∧ OB 2002 g w 30 ((⟨0, []⟩ : Design) : Design) p2 ∧ OSF 2002 60201 1 g w 3 30 (((⟨0, []⟩ : Design)).Rows) p2 ∧ e 3 = p7 ∧ OB 2003 g w 30 (k8 : Design) p7 ∧ OSF 2003 60301 1 g w 3 30 ((k8).Rows) p7 ∧ e 4 = .int .i64 (o0)) (fun Q' hQ => ?_) (fun iG zG hR => ?_)
   ·replace h := hx
    clear hx
    refine E_block ?_
    refine E_seq (E_region (EL_at (.int .i64 (21)) rfl rfl ?_))
    refine EL_nil (thn_n ?_)
    obtain ⟨x6, hx, h⟩ := bsome h
    refine E_join (fun e w => ∃ (g : Gh) , Fr gI wI g w ∧ e 1 = p1 ∧ PT g.m w (x0 : Loom) p1 ∧ e 2 = p2 ∧ OB 2002 g w 30 ((⟨0, []⟩ : Design) : Design) p2 ∧ OSF 2002 60201 1 g w 3 30 (((⟨0, []⟩ : Design)).Rows) p2 ∧ e 3 = p7 ∧ OB 2003 g w 30 (t5 : Design) p7 ∧ OSF 2003 60301 1 g w 3 30 ((t5).Rows) p7 ∧ e 4 = .int .i64 (o0) ∧ e 5 = .int .i64 (x6)) (fun Q' hQ => ?_) (fun jG aH hR => ?_)
    ·replace h := hx
     clear hx
     refine E_seq (E_region (EL_mv v8 rfl ?_))
     refine EL_p (fPtr p1 2) (P_fieldAddr at_25_2 r8 (PT.ptr i7)) rfl ?_
     have cF := PT_field (part_Loom_2).1 i7
     refine EL_do .plain rfl (D_load (g := k9) Try.isAgg23 Try.sizeOf23 rfl cF fun cH dF => ?_)
     refine EL_p (.int .i64 (((x0).Rows).length : Int)) (P_len Try.underlying23 rfl dF) rfl ?_
     refine EL_p (.bool ((decide (o0 < (((x0).Rows).length : Int))))) (P_int rfl rfl rfl) rfl ?_
     refine EL_nil (thn_n ?_)
     rcases csome h with ⟨rA, h⟩ | ⟨rA, h⟩
     ·refine E_ct rA rfl ?_
      refine E_region (EL_p (fPtr p1 2) (P_fieldAddr at_25_2 r8 (PT.ptr i7)) rfl ?_)
      have eF := PT_field (part_Loom_2).1 i7
      refine EL_do .plain rfl (D_load (g := k9) Try.isAgg23 Try.sizeOf23 rfl eF fun rF bD => ?_)
      refine EL_mv v8 rfl ?_
      obtain ⟨n9, mC, h⟩ := bsome h
      refine EL_p (ePtr rF o0 1) (P_indexAddr (α := UInt16) Try.underlying23 Try.sizeOf232 rfl bD rfl mC) rfl ?_
      have sF := PT_idx bD mC
      refine EL_do .plain rfl (D_load (g := k9) Try.isAgg232 Try.sizeOf232 rfl sF fun dH tF => ?_)
      obtain rfl := RV_u16.1 tF
      refine EL_p (.int .i64 (((n9).toNat : Int))) (P_u16int Try.underlying232 Try.underlying3 rfl) rfl ?_
      refine EL_at (.int .i64 (((n9).toNat : Int))) rfl rfl ?_
      refine EL_nil ?_
      obtain rfl := sinj h
      exact hQ _ _ ⟨k9, hfr, r8, i7, lB, mB, u2_1_112, nB, oB, u3_1_112, v8, rfl⟩
     ·refine E_cf rA rfl ?_
      refine E_skip ?_
      obtain rfl := sinj h
      exact hQ _ _ ⟨k9, hfr, r8, i7, lB, mB, u2_1_112, nB, oB, u3_1_112, v8, rfl⟩
    ·clear hx
     obtain ⟨yB, hfr, cD, x5, eD, i6, u2_1_156, x8, l5, u3_1_156, gD, iD⟩ := hR
     refine E_region (EL_p (fPtr p7 1) (P_fieldAddr at_30_1 x8 (OB.ptr l5)) rfl ?_)
     refine EL_do .plain rfl (D_loadFS (g := yB) part_Design_1.1 Try.isAgg26 Try.sizeOf26 rfl l5 u3_1_156 fun gH zB o158 => ?_)
     refine EL_mv iD rfl ?_
     refine EL_p (fPtr p7 0) (P_fieldAddr at_30_0 x8 (OB.ptr l5)) rfl ?_
     refine EL_do .plain rfl (D_loadF (g := yB) part_Design_0.1 Try.isAgg3 Try.sizeOf3 rfl l5 fun iH uF => ?_)
     obtain rfl := RV_int.1 uF
     refine EL_p (.int .u64 (wu64 (t5).Hooks)) (P_intu64 Try.underlying3 Try.underlying95 rfl) rfl ?_
     obtain ⟨y161, lE, h⟩ := bsome h
     refine EL_p (.int .i64 (y161)) (P_shlu rfl rfl lE) rfl ?_
     refine EL_in (.int .i64 ((w64 (y161 - (1 : Int))))) rfl rfl rfl rfl ?_
     refine EL_in (.int .i64 ((bit64 .and x6 (w64 (y161 - (1 : Int)))))) rfl rfl rfl rfl ?_
     refine EL_do .plain rfl (D_buildSlice (g := yB) 3047 (xs := ([(bit64 .and x6 (w64 (y161 - (1 : Int))))] : List Int)) (vs := [.int .i64 ((bit64 .and x6 (w64 (y161 - (1 : Int)))))]) Try.underlying26 Try.sizeOf3 Try.zeroValue3 rfl rfl (.cons rfl .nil) (RVs.cons (RV_int.2 rfl) RVs.nil) rfl rfl fun vF jH kH hs o162 xF hxt hfl => ?_)
     have hfr := hfr.stp hs
     have x5 := x5.stp hs
     have u2_1_156 := u2_1_156.stp hs rfl
     have i6 := i6.stp hs rfl
     have l5 := l5.stp hs rfl
     have zB := zB.stp hs
     have o158 := o158.stp hs rfl
     obtain ⟨vB, mE, h⟩ := bsome h
     refine EL_do .plain rfl (D_append (g := vF) (i := 60301) Try.underlying26 info_3 rfl rfl o158 zB rfl xF mE fun yF lH mH hs o163 jD _ => ?_)
     have hfr := hfr.stp hs
     have x5 := x5.stp hs
     have u2_1_156 := u2_1_156.stp hs rfl
     have i6 := i6.stp hs rfl
     have l5 := l5.stp hs rfl
     refine EL_p (fPtr p7 1) (P_fieldAddr at_30_1 x8 (OB.ptr l5)) rfl ?_
     refine EL_do .plain rfl (D_storeFc (g := yF) part_Design_1 Try.sizeOf26 rfl l5 rfl jD fun zF nH hs b166 rst hos => ?_)
     have lD := hos _ _ 60301 3 (vB : List Int) (rv_cells1 jD) rfl o163
     clear rst hos
     have hfr := hfr.stp hs
     have x5 := x5.stp hs
     have u2_1_156 := u2_1_156.stp hs rfl
     have i6 := i6.stp hs rfl
     refine EL_nil (blk_n ?_)
     obtain rfl := sinj h
     exact hQ _ _ ⟨zF, hfr, cD, x5, eD, i6, u2_1_156, x8, b166, lD, gD⟩
   ·clear hx
    obtain ⟨aG, hfr, nD, oD, sD, tD, u2_1_167, uD, vD, u3_1_167, xD⟩ := hR
    refine E_region (EL_mv xD rfl ?_)
    refine EL_in (.int .i64 ((w64 (o0 + (1 : Int))))) rfl rfl rfl rfl ?_
    refine EL_at (.int .i64 ((w64 (o0 + (1 : Int))))) rfl rfl ?_
    exact EL_nil (thn_n (xE (k8, (w64 (o0 + (1 : Int)))) _ _ ⟨aG, hfr, nD, oD, sD, tD, u2_1_167, uD, vD, u3_1_167, rfl⟩ h))
 ·clear hx
  obtain ⟨yD, hfr, tB, zD, u2_1_168, aE, bE, u3_1_168⟩ := hR
  refine E_seq (E_region (EL_do .plain rfl (D_loadO (g := yD) Try.isAgg30 Try.sizeOf30 aE bE fun bG cG => ?_)))
  refine EL_do .plain rfl (D_storeOc (g := yD) (v := bG) Try.sizeOf30 tB zD rfl cG fun oH pH hs b170 cb => ?_)
  clear cb
  have hfr := hfr.stp hs
  refine EL_nil (thn_n (E_ret ?_))
  obtain rfl := sinj h
  obtain ⟨ad171, cv171, hp171, oE, cr171⟩ := ob_read Try.isAgg30 Try.sizeOf30 b170
  exact endm_c rfl rfl ((show _ = p2 from tB).trans hp171) oE ⟨_, hfr, cr171⟩
def f57 (x0 : List UInt8) (x1 : Int) : Option (Int) :=
 jn (σ := Unit) (fun _ =>
  (rem64 x1 ((x0).length : Int)).bind fun y5 =>
  (idx x0 y5).bind fun y6 =>
  some (((y6).toNat : Int))
  ) fun k2 =>
 bif (((x0).length : Int) == (0 : Int)) then
  some ((0 : Int))
 else
  k2 ()
theorem en57 : Enters Try.prog 57 := enters_of Try.func57 (by kernel_rfl) rfl
theorem wk57 {gI : Gh} {wI : World} {x0 : List UInt8} {x1 : Int} {up0 : Value} (rp0 : RV gI.m wI x0 up0) {r : Int} (h : f57 x0 x1 = some r) : Fn Try.prog 57 #[up0, .int .i64 (x1)] gI wI (fun _ _ v => v = .int .i64 (r)) := by
 unfold f57 at h
 refine fn_of_E Try.func57 rfl (Nat.le_of_ble_eq_true rfl) fun g0 hm hfr => ?_
 have rp0 : RV g0.m wI x0 up0 := hm ▸ rp0
 show E _ 16 none _ _ _ _ _
 refine E_seq (E_region (EL_at (.int .i64 (0)) rfl rfl ?_))
 refine EL_nil (thn_n (E_joinC h (fun (s : Unit) e w => ∃ (g : Gh) , Fr gI wI g w ∧ e 0 = up0 ∧ RV g.m w (x0 : List UInt8) up0 ∧ e 1 = .int .i64 (x1)) (fun X2 k2 hk2 h => ?_) ?_))
 ·refine E_seq (E_region (EL_mw up0 rfl rfl ?_))
  refine EL_p (.int .i64 ((x0).length : Int)) (P_len Try.underlying22 rfl rp0) rfl ?_
  refine EL_in (.bool ((((x0).length : Int) == (0 : Int)))) rfl rfl rfl rfl ?_
  refine EL_nil (thn_n ?_)
  rcases csome h with ⟨hc3, h⟩ | ⟨hc3, h⟩
  ·refine E_ct hc3 rfl ?_
   refine E_seq (E_region (EL_at (.int .i64 (0)) rfl rfl ?_))
   refine EL_nil (thn_n (E_ret (thn_r ?_)))
   obtain rfl := sinj h
   exact end1 rfl rfl (show _ = .int .i64 (0) from rfl) ⟨_, hfr, rfl⟩
  ·refine E_cf hc3 rfl ?_
   exact E_skip (thn_n (hk2 () _ _ ⟨g0, hfr, rfl, rp0, rfl⟩ h))
 ·rintro _ x5 w4 ⟨g4, hfr, u3, o0, t5⟩ h
  refine E_seq (E_region (EL_mv u3 rfl ?_))
  refine EL_mv t5 rfl ?_
  refine EL_mv u3 rfl ?_
  refine EL_p (.int .i64 ((x0).length : Int)) (P_len Try.underlying22 rfl o0) rfl ?_
  obtain ⟨y5, hy5, h⟩ := bsome h
  refine EL_p (.int .i64 (y5)) (P_int rfl rfl (congrArg (Option.map (Value.int .i64)) hy5)) rfl ?_
  obtain ⟨y6, l5, h⟩ := bsome h
  refine EL_p (ePtr up0 y5 1) (P_indexAddr (α := UInt8) Try.underlying22 Try.sizeOf5 rfl o0 rfl l5) rfl ?_
  have q7 := PT_idx o0 l5
  refine EL_do .plain rfl (D_load (g := g4) Try.isAgg5 Try.sizeOf5 rfl q7 fun v8 r8 => ?_)
  obtain rfl := RV_u8.1 r8
  refine EL_p (.int .i64 (((y6).toNat : Int))) (P_u8int Try.underlying5 Try.underlying3 rfl) rfl ?_
  refine EL_at (.int .i64 (((y6).toNat : Int))) rfl rfl ?_
  refine EL_nil (thn_n (E_ret ?_))
  obtain rfl := sinj h
  exact end1 rfl rfl (show _ = .int .i64 (((y6).toNat : Int)) from rfl) ⟨_, hfr, rfl⟩
def f59 (x0 : ChainBelt) : Option (ChainBelt) :=
 (apnd 24 (([] : List ChainCard)) ((x0).Cards)).bind fun y9 =>
 some ((⟨(x0).Hooks, y9⟩ : ChainBelt))
theorem en59 : Enters Try.prog 59 := enters_of Try.func59 (by kernel_rfl) rfl
def f60 (x0 : Int) (x1 : Int) : Option ((List Int)) :=
 Option.bind (α := (List Int)) (
  lp (σ := (List Int) × Int) (fun rA (u3, o0) =>
   jn (σ := Unit) (fun _ =>
    Option.bind (α := (List Int)) (
     (apnd 8 u3 (([(1 : Int)] : List Int))).bind fun yA =>
     some (yA)
     ) fun l5 =>
    rA (l5, (w64 (o0 + (1 : Int))))
    ) fun k18 =>
   bif (decide (o0 < (w64 (x0 * x1)))) then
    k18 ()
   else
    some (u3)
   ) big (([] : List Int), (0 : Int))
  ) fun t5 =>
 some (t5)
theorem en60 : Enters Try.prog 60 := enters_of Try.func60 (by kernel_rfl) rfl
theorem wk60 {gI : Gh} {wI : World} {x0 : Int} {x1 : Int}  {r : (List Int)} (h : f60 x0 x1 = some r) : Fn Try.prog 60 #[.int .i64 (x0), .int .i64 (x1)] gI wI (fun m w v => RV m w (r) v) := by
 unfold f60 at h
 refine fn_of_E Try.func60 rfl (Nat.le_of_ble_eq_true rfl) fun g0 hm hfr => ?_
 show E _ 19 none _ _ _ _ _
 refine E_seq (E_region (EL_at (.slice none 0 0) rfl rfl ?_))
 refine EL_nil (thn_n (E_seq (E_region (EL_do .plain rfl (D_buildSlice (g := g0) 3007 (xs := ([] : List Int)) (vs := []) Try.underlying26 Try.sizeOf3 Try.zeroValue3 rfl rfl .nil RVs.nil rfl rfl fun g1 w1 v1 hs o1 r1 hxt hfl => ?_)))))
 have hfr := hfr.stp hs
 refine EL_at v1 rfl rfl ?_
 refine EL_nil (thn_n ?_)
 obtain ⟨t5, hx, h⟩ := bsome h
 refine E_join (fun e w => ∃ (g : Gh) (v5 : Value), Fr gI wI g w ∧ e 5 = v5 ∧ RV g.m w (t5 : List Int) v5 ∧ OS 3007 g w 3 (t5 : List Int) v5) (fun Q' hQ => ?_) (fun mC vC hR => ?_)
 ·replace h := hx
  clear hx
  refine E_seq (E_region (EL_at (.int .i64 (0)) rfl rfl ?_))
  refine EL_nil (thn_n (E_block ?_))
  refine E_lp h (fun (s : (List Int) × Int) e w => ∃ (g : Gh) (v5 : Value), Fr gI wI g w ∧ e 0 = .int .i64 (x0) ∧ e 1 = .int .i64 (x1) ∧ e 5 = v5 ∧ RV g.m w (s.1 : List Int) v5 ∧ OS 3007 g w 3 (s.1 : List Int) v5 ∧ e 6 = .int .i64 (s.2)) ⟨g1, (v1), hfr, rfl, rfl, rfl, r1, o1, rfl⟩ (fun X15 rA iB => ?_)
  rintro ⟨u3, o0⟩ qC aD ⟨aB, x5, hfr, i7, m7, g8, k8, l8, m8⟩ h
  refine E_joinC h (fun (s : Unit) e w => ∃ (g : Gh) , Fr gI wI g w ∧ e 0 = .int .i64 (x0) ∧ e 1 = .int .i64 (x1) ∧ e 5 = x5 ∧ RV g.m w (u3 : List Int) x5 ∧ OS 3007 g w 3 (u3 : List Int) x5 ∧ e 6 = .int .i64 (o0)) (fun X18 k18 lB h => ?_) ?_
  ·refine E_seq (E_region (EL_mv m8 rfl ?_))
   refine EL_mv i7 rfl ?_
   refine EL_mv m7 rfl ?_
   refine EL_in (.int .i64 ((w64 (x0 * x1)))) rfl rfl rfl rfl ?_
   refine EL_in (.bool ((decide (o0 < (w64 (x0 * x1)))))) rfl rfl rfl rfl ?_
   refine EL_nil (thn_n ?_)
   rcases csome h with ⟨y6, h⟩ | ⟨y6, h⟩
   ·refine E_ct y6 rfl ?_
    exact E_skip (thn_n (lB () _ _ ⟨aB, hfr, i7, m7, g8, k8, l8, m8⟩ h))
   ·refine E_cf y6 rfl ?_
    refine E_exit ?_
    refine thn_e ?_
    refine thn_e ?_
    refine blk_hit ?_
    obtain rfl := sinj h
    exact hQ _ _ ⟨aB, (x5), hfr, g8, k8, l8⟩
  ·rintro _ rC bD ⟨nB, hfr, r8, v8, x8, i6, x6, a9⟩ h
   obtain ⟨l5, hx, h⟩ := bsome h
   refine E_join (fun e w => ∃ (g : Gh) (v5 : Value), Fr gI wI g w ∧ e 0 = .int .i64 (x0) ∧ e 1 = .int .i64 (x1) ∧ e 5 = v5 ∧ RV g.m w (l5 : List Int) v5 ∧ OS 3007 g w 3 (l5 : List Int) v5 ∧ e 6 = .int .i64 (o0)) (fun Q' hQ => ?_) (fun uC cD hR => ?_)
   ·replace h := hx
    clear hx
    refine E_block ?_
    refine E_region (EL_mv x8 rfl ?_)
    refine EL_do .plain rfl (D_buildSlice (g := nB) 3016 (xs := ([(1 : Int)] : List Int)) (vs := [.int .i64 (1)]) Try.underlying26 Try.sizeOf3 Try.zeroValue3 rfl rfl (.cons rfl .nil) (RVs.cons (RV_int.2 rfl) RVs.nil) rfl rfl fun oB eD gD hs o24 tB hxt hfl => ?_)
    have hfr := hfr.stp hs
    have i6 := i6.stp hs
    have x6 := x6.stp hs rfl
    obtain ⟨yA, mB, h⟩ := bsome h
    refine EL_do .plain rfl (D_append (g := oB) (i := 3007) Try.underlying26 info_3 rfl rfl x6 i6 rfl tB mB fun vB iD dB hs o25 yB _ => ?_)
    have hfr := hfr.stp hs
    refine EL_at dB rfl rfl ?_
    refine EL_nil (blk_n ?_)
    obtain rfl := sinj h
    exact hQ _ _ ⟨vB, (dB), hfr, r8, v8, rfl, yB, o25, a9⟩
   ·clear hx
    obtain ⟨zB, d9, hfr, k9, l9, n9, u9, y9, z9⟩ := hR
    refine E_region (EL_mv z9 rfl ?_)
    refine EL_in (.int .i64 ((w64 (o0 + (1 : Int))))) rfl rfl rfl rfl ?_
    refine EL_at (.int .i64 ((w64 (o0 + (1 : Int))))) rfl rfl ?_
    exact EL_nil (thn_n (iB (l5, (w64 (o0 + (1 : Int)))) _ _ ⟨zB, (d9), hfr, k9, l9, n9, u9, y9, rfl⟩ h))
 ·clear hx
  obtain ⟨jD, n8, hfr, bA, iA, cC⟩ := hR
  refine E_seq (E_region (EL_mv bA rfl ?_))
  refine EL_at n8 rfl rfl ?_
  refine EL_nil (thn_n (E_ret ?_))
  obtain rfl := sinj h
  exact end1 rfl rfl (show _ = n8 from rfl) ⟨_, hfr, iA⟩
def f91 (x0 : List Int) (x1 : Int) : Option ((List Int)) :=
 Option.bind (α := Unit) (
  bif (decide (x1 < (0 : Int))) then
   none
  else
   some ()
  ) fun (_ : Unit) =>
 (mulU ((wu64 ((x0).length : Int))) ((wu64 x1))).bind fun y4 =>
 Option.bind (α := Unit) (
  Option.bind (α := Bool) (
   bif (decide (y4.1 > (0 : Int))) then
    some (true)
   else
    some ((decide (y4.2 > (9223372036854775807 : Int))))
   ) fun t5 =>
  bif t5 then
   none
  else
   some ()
  ) fun (_ : Unit) =>
 (mks 8 (0 : Int) ((w64 (y4.2)))).bind fun n8 =>
 Option.bind (α := (List Int)) (
  lp (σ := (List Int) × Int) (fun aB (u3, o0) =>
   jn (σ := Unit) (fun _ =>
    (cut u3 o0 ((u3).length : Int)).bind fun x6 =>
    (cut u3 0 o0).bind fun y6 =>
    aB ((cpy u3 o0 x6 y6), (w64 (o0 + ((min (y6).length (x6).length : Nat) : Int))))
    ) fun dB =>
   bif (decide (o0 < ((u3).length : Int))) then
    dB ()
   else
    some (u3)
   ) big ((cpy n8 0 n8 x0), ((min (x0).length (n8).length : Nat) : Int))
  ) fun i7 =>
 some (i7)
theorem en91 : Enters Try.prog 91 := enters_of Try.func91 (by kernel_rfl) rfl
theorem wk91 {gI : Gh} {wI : World} {x0 : List Int} {x1 : Int} {up0 : Value} (rp0 : RV gI.m wI x0 up0) {r : (List Int)} (h : f91 x0 x1 = some r) : Fn Try.prog 91 #[up0, .int .i64 (x1)] gI wI (fun m w v => RV m w (r) v) := by
 unfold f91 at h
 refine fn_of_E Try.func91 rfl (Nat.le_of_ble_eq_true rfl) fun g0 hm hfr => ?_
 have rp0 : RV g0.m wI x0 up0 := hm ▸ rp0
 show E _ 48 none _ _ _ _ _
 refine E_seq (E_region (EL_at (.slice none 0 0) rfl rfl ?_))
 refine EL_nil (thn_n ?_)
 obtain ⟨_, hx, h⟩ := bsome h
 refine E_join (fun e w => ∃ (g : Gh) , Fr gI wI g w ∧ e 0 = up0 ∧ RV g.m w (x0 : List Int) up0 ∧ e 1 = .int .i64 (x1)) (fun Q' hQ => ?_) (fun eD w3 hR => ?_)
 ·replace h := hx
  clear hx
  refine E_seq (E_region (EL_mw (.int .i64 (x1)) rfl rfl ?_))
  refine EL_in (.bool ((decide (x1 < (0 : Int))))) rfl rfl rfl rfl ?_
  refine EL_nil (thn_n ?_)
  rcases csome h with ⟨hc2, h⟩ | ⟨hc2, h⟩
  ·refine E_ct hc2 rfl ?_
   refine E_region ?_
   cases h
  ·refine E_cf hc2 rfl ?_
   refine E_skip ?_
   obtain rfl := sinj h
   exact hQ _ _ ⟨g0, hfr, rfl, rp0, rfl⟩
 ·clear hx
  obtain ⟨g3, hfr, v8, x8, mB⟩ := hR
  refine E_seq (E_region (EL_mv v8 rfl ?_))
  refine EL_p (.int .i64 ((x0).length : Int)) (P_len Try.underlying26 rfl x8) rfl ?_
  refine EL_p (.int .u64 (wu64 ((x0).length : Int))) (P_intu64 Try.underlying3 Try.underlying95 rfl) rfl ?_
  refine EL_mv mB rfl ?_
  refine EL_p (.int .u64 (wu64 x1)) (P_intu64 Try.underlying3 Try.underlying95 rfl) rfl ?_
  obtain ⟨y4, vB, h⟩ := bsome h
  refine EL_do .plain rfl (D_mulU en168 mul_ok rfl rfl vB ?_)
  refine EL_mw (.tuple #[.int .u64 y4.1, .int .u64 y4.2]) rfl rfl ?_
  refine EL_p (.int .u64 y4.1) (P_extract rfl rfl) rfl ?_
  refine EL_p (.int .u64 y4.2) (P_extract rfl rfl) rfl ?_
  refine EL_at (.int .u64 y4.1) rfl rfl ?_
  refine EL_at (.int .u64 y4.2) rfl rfl ?_
  refine EL_nil (thn_n ?_)
  obtain ⟨_, hx, h⟩ := bsome h
  refine E_join (fun e w => ∃ (g : Gh) , Fr gI wI g w ∧ e 0 = up0 ∧ RV g.m w (x0 : List Int) up0 ∧ e 6 = .int .u64 (y4.2)) (fun Q' hQ => ?_) (fun uC gD hR => ?_)
  ·replace h := hx
   clear hx
   obtain ⟨t5, hx, h⟩ := bsome h
   refine E_join (fun e w => ∃ (g : Gh) , Fr gI wI g w ∧ e 0 = up0 ∧ RV g.m w (x0 : List Int) up0 ∧ e 6 = .int .u64 (y4.2) ∧ e 26 = .bool (t5)) (fun Q' hQ => ?_) (fun vC iD hR => ?_)
   ·replace h := hx
    clear hx
    refine E_region (EL_mw (.int .u64 y4.1) rfl rfl ?_)
    refine EL_p (.bool (decide (y4.1 > (0 : Int)))) (P_u64cmp rfl rfl rfl) rfl ?_
    refine EL_mw (.bool (decide (y4.1 > (0 : Int)))) rfl rfl ?_
    rcases csome h with ⟨x5, h⟩ | ⟨x5, h⟩
    ·refine EL_s rfl rfl x5 rfl rfl ?_
     refine EL_s rfl rfl x5 rfl rfl ?_
     refine EL_p (.bool true) (P_pick (b := (decide (y4.1 > (0 : Int)))) rfl (pick_t x5 rfl)) rfl ?_
     refine EL_nil ?_
     obtain rfl := sinj h
     exact hQ _ _ ⟨g3, hfr, v8, x8, rfl, rfl⟩
    ·refine EL_y (.int .u64 y4.2) (P_move rfl) rfl rfl x5 rfl ?_
     refine EL_y (.bool (decide (y4.2 > (9223372036854775807 : Int)))) (P_u64cmp rfl rfl rfl) rfl rfl x5 rfl ?_
     refine EL_p (.bool (decide (y4.2 > (9223372036854775807 : Int)))) (P_pick (b := (decide (y4.1 > (0 : Int)))) rfl (pick_f x5 rfl)) rfl ?_
     refine EL_nil ?_
     obtain rfl := sinj h
     exact hQ _ _ ⟨g3, hfr, v8, x8, rfl, rfl⟩
   ·clear hx
    obtain ⟨yB, hfr, u9, y9, z9, r8⟩ := hR
    rcases csome h with ⟨a9, h⟩ | ⟨a9, h⟩
    ·refine E_cond_true (Eq.trans (show ev _ _ = .bool (t5) from r8) (congrArg Value.bool a9)) ?_
     refine E_region ?_
     cases h
    ·refine E_cond_false (Eq.trans (show ev _ _ = .bool (t5) from r8) (congrArg Value.bool a9)) ?_
     refine E_skip ?_
     obtain rfl := sinj h
     exact hQ _ _ ⟨yB, hfr, u9, y9, z9⟩
  ·clear hx
   obtain ⟨zB, hfr, bA, m7, iA⟩ := hR
   refine E_seq (E_region (EL_mv iA rfl ?_))
   refine EL_p (.int .i64 ((w64 (y4.2)))) (P_u64int Try.underlying95 Try.underlying3 rfl) rfl ?_
   obtain ⟨n8, nB, h⟩ := bsome h
   refine EL_do .plain rfl (D_makeSliceM (g := zB) 9030 (0 : Int) rfl Try.underlying26 info_3 rfl (fun _ _ => rfl) rfl rfl nB fun cC w15 l5 hs b15 => ?_)
   have hfr := hfr.stp hs
   have m7 := m7.stp hs
   refine EL_at l5 rfl rfl ?_
   refine EL_nil (thn_n (E_seq (E_region (EL_mw l5 rfl rfl ?_))))
   refine EL_mv bA rfl ?_
   refine EL_do .plain rfl (D_copyM (g := cC) (α := Int) Try.underlying26 info_3 rfl b15 rfl m7 fun mC jD hs b16 => ?_)
   have hfr := hfr.stp hs
   refine EL_at (.int .i64 ((min (x0).length (n8).length : Nat) : Int)) rfl rfl ?_
   refine EL_nil (thn_n ?_)
   obtain ⟨i7, hx, h⟩ := bsome h
   refine E_join (fun e w => ∃ (g : Gh) , Fr gI wI g w ∧ e 7 = l5 ∧ OM 9030 g w 3 (i7 : List Int) l5) (fun Q' hQ => ?_) (fun aD lD hR => ?_)
   ·replace h := hx
    clear hx
    refine E_block ?_
    refine E_lp h (fun (s : (List Int) × Int) e w => ∃ (g : Gh) , Fr gI wI g w ∧ e 7 = l5 ∧ OM 9030 g w 3 (s.1 : List Int) l5 ∧ e 8 = .int .i64 (s.2)) ⟨mC, hfr, rfl, b16, rfl⟩ (fun X29 aB oB => ?_)
    rintro ⟨u3, o0⟩ bD nD ⟨iB, hfr, g8, k8, k9⟩ h
    refine E_joinC h (fun (s : Unit) e w => ∃ (g : Gh) , Fr gI wI g w ∧ e 7 = l5 ∧ OM 9030 g w 3 (u3 : List Int) l5 ∧ e 8 = .int .i64 (o0)) (fun X32 dB tB h => ?_) ?_
    ·refine E_seq (E_region (EL_mv k9 rfl ?_))
     refine EL_mv g8 rfl ?_
     refine EL_p (.int .i64 ((u3).length : Int)) (P_lenM Try.underlying26 rfl k8) rfl ?_
     refine EL_in (.bool ((decide (o0 < ((u3).length : Int))))) rfl rfl rfl rfl ?_
     refine EL_nil (thn_n ?_)
     rcases csome h with ⟨d9, h⟩ | ⟨d9, h⟩
     ·refine E_ct d9 rfl ?_
      exact E_skip (thn_n (tB () _ _ ⟨iB, hfr, g8, k8, k9⟩ h))
     ·refine E_cf d9 rfl ?_
      refine E_exit ?_
      refine thn_e ?_
      refine thn_e ?_
      refine blk_hit ?_
      obtain rfl := sinj h
      exact hQ _ _ ⟨iB, hfr, g8, k8⟩
    ·rintro _ cD qC ⟨lB, hfr, l8, i6, m8⟩ h
     refine E_block ?_
     obtain ⟨x6, l9, h⟩ := bsome h
     obtain ⟨y6, n9, h⟩ := bsome h
     refine E_drawC (g := lB) (w := qC) (n := 8) [0, 1, 2, 3, 4, 5, 6] [] [0, 1, 2, 3, 4, 5, 6, 7] rfl mixed (by kernel_rfl) fun w_c37 hs hlt => ?_
     have hfr := hfr.ext hs
     have i6 := i6.ext hs
     clear hs
     refine CH_pur (c := .int .i64 (o0)) rfl rfl .plain (P_move m8) ?_
     refine CH_pur (c := l5) rfl rfl .plain (P_move l8) ?_
     refine CH_pur (c := .int .i64 (o0)) rfl rfl .plain (P_move m8) ?_
     refine CH_pur (c := (cutV l5 (Int.toNat o0) (Int.toNat ((u3).length : Int)) 1)) rfl rfl .plain (P_cutM (α := Int) Try.underlying26 Try.sizeOf3 rfl (OM.hdr i6) rfl rfl l9) ?_
     refine CH_pur (c := l5) rfl rfl .plain (P_move l8) ?_
     refine CH_pur (c := .int .i64 (o0)) rfl rfl .plain (P_move m8) ?_
     refine CH_pur (c := (cutV l5 0 (Int.toNat o0) 1)) rfl rfl .plain (P_cutM (α := Int) Try.underlying26 Try.sizeOf3 rfl (OM.hdr i6) rfl rfl n9) ?_
     refine CH_do rfl rfl .plain (D_copyMM (g := lB) (α := Int) Try.underlying26 info_3 rfl i6 rfl l9 n9 fun rC oD hs b40 => ?_)
     have hfr := hfr.stp hs
     have hlt := hlt.stp hs
     refine ⟨hlt.toW, ?_⟩
     refine CH_nil ?_
     clear hlt
     refine EL_p (.int .i64 ((w64 (o0 + ((min (y6).length (x6).length : Nat) : Int))))) (P_int rfl rfl rfl) rfl ?_
     refine EL_p (.int .i64 ((w64 (o0 + ((min (y6).length (x6).length : Nat) : Int))))) (P_assign rfl) rfl ?_
     exact EL_nil (blk_n (thn_n (oB ((cpy u3 o0 x6 y6), (w64 (o0 + ((min (y6).length (x6).length : Nat) : Int)))) _ _ ⟨rC, hfr, l8, b40, rfl⟩ h)))
   ·clear hx
    obtain ⟨sD, hfr, rA, yA⟩ := hR
    refine E_seq (E_region (EL_mv rA rfl ?_))
    obtain ⟨gp42, hs, rp42⟩ := OM.pub yA
    have hfr := hfr.stp hs
    refine EL_at l5 rfl rfl ?_
    refine EL_nil (thn_n (E_ret ?_))
    obtain rfl := sinj h
    exact end1 rfl rfl (show _ = l5 from rfl) ⟨_, hfr, rp42⟩
def f114 (x0 : ChainChainBelt) (x1 : Int) (x2 : Int) : Option (Int) :=
 (rem64 (w64 (x1 + x2)) ((((x0).ChainBelt).Cards).length : Int)).bind fun y5 =>
 some (y5)
theorem en114 : Enters Try.prog 114 := enters_of Try.func114 (by kernel_rfl) rfl
theorem wk114 {gI : Gh} {wI : World} {x0 : ChainChainBelt} {x1 : Int} {x2 : Int} {up0 : Value} (rp0 : RV gI.m wI x0 up0) {r : Int} (h : f114 x0 x1 x2 = some r) : Fn Try.prog 114 #[up0, .int .i64 (x1), .int .i64 (x2)] gI wI (fun _ _ v => v = .int .i64 (r)) := by
 unfold f114 at h
 refine fn_of_E Try.func114 rfl (Nat.le_of_ble_eq_true rfl) fun g0 hm hfr => ?_
 have rp0 : RV g0.m wI x0 up0 := hm ▸ rp0
 show E _ 15 none _ _ _ _ _
 refine E_seq (E_region (EL_do .plain rfl (D_box (g := g0) rfl rp0 fun g1 w1 p1 hs q1 => ?_)))
 have hfr := hfr.ext hs
 refine EL_at (.int .i64 (0)) rfl rfl ?_
 refine EL_nil (thn_n (E_seq (E_region (EL_mw (.int .i64 (x1)) rfl rfl ?_))))
 refine EL_mw (.int .i64 (x2)) rfl rfl ?_
 refine EL_in (.int .i64 ((w64 (x1 + x2)))) rfl rfl rfl rfl ?_
 refine EL_p (fPtr p1 0) (P_fieldAddr at_236_0 rfl (PT.ptr q1)) rfl ?_
 have q2 := PT_field (part_ChainChainBelt_0).1 q1
 refine EL_p (fPtr (fPtr p1 0) 1) (P_fieldAddr at_110_1 rfl (PT.ptr q2)) rfl ?_
 have q3 := PT_field (part_ChainBelt_1).1 q2
 refine EL_do .plain rfl (D_load (g := g1) Try.isAgg108 Try.sizeOf108 rfl q3 fun v4 r4 => ?_)
 refine EL_p (.int .i64 ((((x0).ChainBelt).Cards).length : Int)) (P_len Try.underlying108 rfl r4) rfl ?_
 obtain ⟨y5, hy5, h⟩ := bsome h
 refine EL_p (.int .i64 (y5)) (P_int rfl rfl (congrArg (Option.map (Value.int .i64)) hy5)) rfl ?_
 refine EL_at (.int .i64 (y5)) rfl rfl ?_
 refine EL_nil (thn_n (E_ret ?_))
 obtain rfl := sinj h
 exact end1 rfl rfl (show _ = .int .i64 (y5) from rfl) ⟨_, hfr, rfl⟩
def f151 (x0 : List Int) (x1 : Int → Option Bool) : Option (Int) :=
 jn (σ := Unit) (fun _ =>
  some ((-1 : Int))
  ) fun k18 =>
 lp (σ := Int) (fun k19 o0 =>
  bif (decide (o0 < ((x0).length : Int))) then
   jn (σ := Unit) (fun _ =>
    k19 ((w64 (o0 + (1 : Int))))
    ) fun k28 =>
   (idx x0 o0).bind fun i7 =>
   (x1 i7).bind fun v8 =>
   bif v8 then
    some (o0)
   else
    k28 ()
  else
   k18 ()
  ) big ((0 : Int))
theorem en151 : Enters Try.prog 151 := enters_of Try.func151 (by kernel_rfl) rfl
theorem wk151 {gI : Gh} {wI : World} {x0 : List Int} {x1 : Int → Option Bool} {up0 : Value} (rp0 : RV gI.m wI x0 up0) {up1 : Value} (rp1 : FnV1 Try.prog x1 up1 gI wI) {r : Int} (h : f151 x0 x1 = some r) : Fn Try.prog 151 #[up0, up1] gI wI (fun _ _ v => v = .int .i64 (r)) := by
 unfold f151 at h
 refine fn_of_E Try.func151 rfl (Nat.le_of_ble_eq_true rfl) fun g0 hm hfr => ?_
 have rp0 : RV g0.m wI x0 up0 := hm ▸ rp0
 obtain ⟨ff1, fa1, fc1, rfl, fen1, fcl1⟩ := rp1
 show E _ 19 none _ _ _ _ _
 refine E_seq (E_region (EL_at (.int .i64 (0)) rfl rfl ?_))
 refine EL_nil (thn_n (E_joinC h (fun (s : Unit) e w => ∃ (g : Gh) , Fr gI wI g w) (fun X18 k18 x8 h => ?_) ?_))
 ·refine E_seq (E_region (EL_mw up0 rfl rfl ?_))
  refine EL_p (.int .i64 ((x0).length : Int)) (P_len Try.underlying26 rfl rp0) rfl ?_
  refine EL_mw (.int .i64 (0)) rfl rfl ?_
  refine EL_nil (thn_n (E_block ?_))
  refine E_lp h (fun (s : Int) e w => ∃ (g : Gh) , Fr gI wI g w ∧ e 0 = up0 ∧ RV g.m w (x0 : List Int) up0 ∧ e 1 = (.func (.func ff1) fa1 fc1) ∧ e 7 = .int .i64 (((x0).length : Int)) ∧ e 8 = .int .i64 (s)) ⟨g0, hfr, rfl, rp0, rfl, rfl, rfl⟩ (fun X19 k19 a9 => ?_)
  rintro o0 z9 rA ⟨m7, hfr, i6, u3, x6, y6, l5⟩ h
  refine E_seq (E_region (EL_in (.bool ((decide (o0 < ((x0).length : Int))))) l5 y6 rfl rfl ?_))
  refine EL_nil (thn_n (E_seq ?_))
  rcases csome h with ⟨t5, h⟩ | ⟨t5, h⟩
  ·refine E_ct t5 rfl ?_
   refine E_skip (thn_n (E_joinC h (fun (s : Unit) e w => ∃ (g : Gh) , Fr gI wI g w ∧ e 0 = up0 ∧ RV g.m w (x0 : List Int) up0 ∧ e 1 = (.func (.func ff1) fa1 fc1) ∧ e 7 = .int .i64 (((x0).length : Int)) ∧ e 8 = .int .i64 (o0)) (fun X28 k28 d9 h => ?_) ?_))
   ·refine E_block ?_
    refine E_seq (E_region (EL_mv l5 rfl ?_))
    refine EL_at (.int .i64 (o0)) rfl rfl ?_
    refine EL_nil (thn_n (E_seq (E_region (EL_mv x6 rfl ?_))))
    refine EL_mv i6 rfl ?_
    refine EL_mw (.int .i64 (o0)) rfl rfl ?_
    obtain ⟨i7, g8, h⟩ := bsome h
    refine EL_p (ePtr up0 o0 1) (P_indexAddr (α := Int) Try.underlying26 Try.sizeOf3 rfl u3 rfl g8) rfl ?_
    have l9 := PT_idx u3 g8
    refine EL_do .plain rfl (D_load (g := m7) Try.isAgg3 Try.sizeOf3 rfl l9 fun yA n9 => ?_)
    obtain rfl := RV_int.1 n9
    obtain ⟨v8, k9, h⟩ := bsome h
    refine EL_do .plain rfl (D_callv (g := m7) (vs := [.int .i64 (i7)]) rfl fen1 (.cons rfl .nil) (fcl1 _ _ hfr.ch _ _ _  (RV_int.2 rfl) k9) fun u9 aB dB hs hr => ?_)
    have hfr := hfr.ext hs
    have u3 := u3.ext hs
    obtain rfl := RV_bool.1 hr
    refine EL_nil (thn_n ?_)
    rcases csome h with ⟨x5, h⟩ | ⟨x5, h⟩
    ·refine E_ct x5 rfl ?_
     refine E_seq (E_region (EL_mw (.int .i64 (o0)) rfl rfl ?_))
     refine EL_at (.int .i64 (o0)) rfl rfl ?_
     refine EL_nil (thn_n (E_ret (blk_r ?_)))
     refine thn_r ?_
     refine thn_r ?_
     refine blk_r ?_
     refine thn_r ?_
     obtain rfl := sinj h
     exact end1 rfl rfl (show _ = .int .i64 (o0) from rfl) ⟨_, hfr, rfl⟩
    ·refine E_cf x5 rfl ?_
     exact E_skip (blk_n (thn_n (d9 () _ _ ⟨u9, hfr, i6, u3, x6, y6, l5⟩ h)))
   ·rintro _ bA iB ⟨y9, hfr, k8, l8, m8, n8, r8⟩ h
    refine E_region (EL_in (.int .i64 ((w64 (o0 + (1 : Int))))) r8 rfl rfl rfl ?_)
    refine EL_mw (.int .i64 ((w64 (o0 + (1 : Int))))) rfl rfl ?_
    exact EL_nil (thn_n (a9 ((w64 (o0 + (1 : Int)))) _ _ ⟨y9, hfr, k8, l8, m8, n8, rfl⟩ h))
  ·refine E_cf t5 rfl ?_
   refine E_exit ?_
   refine thn_e ?_
   refine thn_e ?_
   refine blk_hit ?_
   exact thn_n (x8 () _ _ ⟨m7, hfr⟩ h)
 ·rintro _ iA lB ⟨mB, hfr⟩ h
  refine E_seq (E_region (EL_at (.int .i64 (-1)) rfl rfl ?_))
  refine EL_nil (thn_n (E_ret ?_))
  obtain rfl := sinj h
  exact end1 rfl rfl (show _ = .int .i64 (-1) from rfl) ⟨_, hfr, rfl⟩
def f165 (x0 : List Int) (x1 : Int → Option Bool) : Option (Bool) :=
 (f151 x0 x1).bind fun y2 =>
 some ((decide (y2 ≥ (0 : Int))))
theorem en165 : Enters Try.prog 165 := enters_of Try.func165 (by kernel_rfl) rfl
theorem wk165 {gI : Gh} {wI : World} {x0 : List Int} {x1 : Int → Option Bool} {up0 : Value} (rp0 : RV gI.m wI x0 up0) {up1 : Value} (rp1 : FnV1 Try.prog x1 up1 gI wI) {r : Bool} (h : f165 x0 x1 = some r) : Fn Try.prog 165 #[up0, up1] gI wI (fun _ _ v => v = .bool (r)) := by
 unfold f165 at h
 refine fn_of_E Try.func165 rfl (Nat.le_of_ble_eq_true rfl) fun g0 hm hfr => ?_
 have rp0 : RV g0.m wI x0 up0 := hm ▸ rp0
 obtain ⟨ff1, fa1, fc1, rfl, fen1, fcl1⟩ := rp1
 show E _ 9 none _ _ _ _ _
 refine E_seq (E_region (EL_at (.bool false) rfl rfl ?_))
 refine EL_nil (thn_n (E_seq (E_region (EL_mw up0 rfl rfl ?_))))
 refine EL_mw ((.func (.func ff1) fa1 fc1)) rfl rfl ?_
 obtain ⟨y2, hy2, h⟩ := bsome h
 refine EL_do .plain rfl (D_call (g := g0) (vs := [up0, (.func (.func ff1) fa1 fc1)]) en151 (.cons rfl (.cons rfl .nil)) (wk151 rp0 (FnV1.ch ⟨_, _, _, rfl, fen1, fcl1⟩ hfr.ch) hy2) fun g1 w1_ v1 hs hr => ?_)
 have hfr := hfr.ext hs
 subst hr
 refine EL_in (.bool ((decide (y2 ≥ (0 : Int))))) rfl rfl rfl rfl ?_
 refine EL_at (.bool ((decide (y2 ≥ (0 : Int))))) rfl rfl ?_
 refine EL_nil (thn_n (E_ret ?_))
 obtain rfl := sinj h
 exact end1 rfl rfl (show _ = .bool ((decide (y2 ≥ (0 : Int)))) from rfl) ⟨_, hfr, rfl⟩
def f179 (x0 : Int) (z0 : Int) (z1 : Int) : Option (Bool) :=
 Option.bind (α := Bool) (
  bif (decide (x0 < z0)) then
   some (true)
  else
   some ((decide (x0 > z1)))
  ) fun o0 =>
 some (o0)
theorem en179 : Enters Try.prog 179 := enters_of Try.func179 (by kernel_rfl) rfl
theorem wk179 {gI : Gh} {wI : World} {x0 : Int} {z0 : Int} {z1 : Int} {pf0 : Value} (qf0 : PT gI.m wI z0 pf0) {pf1 : Value} (qf1 : PT gI.m wI z1 pf1) {r : Bool} (h : f179 x0 z0 z1 = some r) : Fn Try.prog 179 #[.int .i64 (x0), pf0, pf1] gI wI (fun _ _ v => v = .bool (r)) := by
 unfold f179 at h
 refine fn_of_E Try.func179 rfl (Nat.le_of_ble_eq_true rfl) fun g0 hm hfr => ?_
 have qf0 : PT g0.m wI z0 pf0 := hm ▸ qf0
 have qf1 : PT g0.m wI z1 pf1 := hm ▸ qf1
 show E _ 13 none _ _ _ _ _
 refine E_seq (E_region (EL_at (.bool false) rfl rfl ?_))
 refine EL_nil (thn_n ?_)
 obtain ⟨o0, hx, h⟩ := bsome h
 refine E_join (fun e w => ∃ (g : Gh) , Fr gI wI g w ∧ e 4 = .bool (o0)) (fun Q' hQ => ?_) (fun l5 w7 hR => ?_)
 ·replace h := hx
  clear hx
  refine E_region (EL_mw (.int .i64 (x0)) rfl rfl ?_)
  refine EL_do .plain rfl (D_load (g := g0) Try.isAgg3 Try.sizeOf3 rfl qf0 fun v4 r4 => ?_)
  obtain rfl := RV_int.1 r4
  refine EL_in (.bool ((decide (x0 < z0)))) rfl rfl rfl rfl ?_
  refine EL_mw (.bool ((decide (x0 < z0)))) rfl rfl ?_
  rcases csome h with ⟨hc5, h⟩ | ⟨hc5, h⟩
  ·refine EL_s rfl rfl hc5 rfl rfl ?_
   refine EL_s rfl rfl hc5 rfl rfl ?_
   refine EL_s rfl rfl hc5 rfl rfl ?_
   refine EL_p (.bool true) (P_pick (b := (decide (x0 < z0))) rfl (pick_t hc5 rfl)) rfl ?_
   refine EL_at (.bool true) rfl rfl ?_
   refine EL_nil ?_
   obtain rfl := sinj h
   exact hQ _ _ ⟨g0, hfr, rfl⟩
  ·refine EL_y (.int .i64 (x0)) (P_move rfl) rfl rfl hc5 rfl ?_
   refine EL_do (.yes2 rfl rfl hc5) rfl (D_load (g := g0) Try.isAgg3 Try.sizeOf3 rfl qf1 fun v6 r6 => ?_)
   obtain rfl := RV_int.1 r6
   refine EL_y (.bool ((decide (x0 > z1)))) (P_int rfl rfl rfl) rfl rfl hc5 rfl ?_
   refine EL_p (.bool ((decide (x0 > z1)))) (P_pick (b := (decide (x0 < z0))) rfl (pick_f hc5 rfl)) rfl ?_
   refine EL_at (.bool ((decide (x0 > z1)))) rfl rfl ?_
   refine EL_nil ?_
   obtain rfl := sinj h
   exact hQ _ _ ⟨g0, hfr, rfl⟩
 ·clear hx
  obtain ⟨g7, hfr, u3⟩ := hR
  refine E_ret ?_
  obtain rfl := sinj h
  exact end1 rfl rfl (show _ = .bool (o0) from u3) ⟨_, hfr, rfl⟩
def f186 (x0 : Bool) : Option (UInt8) :=
 jn (σ := Unit) (fun _ =>
  some ((46 : UInt8))
  ) fun k2 =>
 bif x0 then
  some ((120 : UInt8))
 else
  k2 ()
theorem en186 : Enters Try.prog 186 := enters_of Try.func186 (by kernel_rfl) rfl
theorem wk186 {gI : Gh} {wI : World} {x0 : Bool}  {r : UInt8} (h : f186 x0 = some r) : Fn Try.prog 186 #[.bool (x0)] gI wI (fun _ _ v => v = .int .u8 (UInt8.toNat (r))) := by
 unfold f186 at h
 refine fn_of_E Try.func186 rfl (Nat.le_of_ble_eq_true rfl) fun g0 hm hfr => ?_
 show E _ 4 none _ _ _ _ _
 refine E_seq (E_region (EL_at (.int .u8 (UInt8.toNat 0)) rfl rfl ?_))
 refine EL_nil (thn_n (E_joinC h (fun (s : Unit) e w => ∃ (g : Gh) , Fr gI wI g w) (fun X2 k2 hk2 h => ?_) ?_))
 ·refine E_seq (E_region (EL_mw (.bool (x0)) rfl rfl ?_))
  refine EL_nil (thn_n ?_)
  rcases csome h with ⟨hc3, h⟩ | ⟨hc3, h⟩
  ·refine E_ct hc3 rfl ?_
   refine E_seq (E_region (EL_at (.int .u8 (UInt8.toNat 120)) rfl rfl ?_))
   refine EL_nil (thn_n (E_ret (thn_r ?_)))
   obtain rfl := sinj h
   exact end1 rfl rfl (show _ = .int .u8 (UInt8.toNat 120) from rfl) ⟨_, hfr, rfl⟩
  ·refine E_cf hc3 rfl ?_
   exact E_skip (thn_n (hk2 () _ _ ⟨g0, hfr⟩ h))
 ·rintro _ o0 w4 ⟨g4, hfr⟩ h
  refine E_seq (E_region (EL_at (.int .u8 (UInt8.toNat 46)) rfl rfl ?_))
  refine EL_nil (thn_n (E_ret ?_))
  obtain rfl := sinj h
  exact end1 rfl rfl (show _ = .int .u8 (UInt8.toNat 46) from rfl) ⟨_, hfr, rfl⟩
def f187 (x0 : TieTieHarness) (x1 : Int) (x2 : Int) : Option (Bool) :=
 (idx (((x0).TieHarness).Warps) x2).bind fun y5 =>
 (shr64 x1 y5).bind fun y8 =>
 some (((bit64 .and y8 (1 : Int)) == (1 : Int)))
theorem en187 : Enters Try.prog 187 := enters_of Try.func187 (by kernel_rfl) rfl
theorem wk187 {gI : Gh} {wI : World} {x0 : TieTieHarness} {x1 : Int} {x2 : Int} {up0 : Value} (rp0 : RV gI.m wI x0 up0) {r : Bool} (h : f187 x0 x1 x2 = some r) : Fn Try.prog 187 #[up0, .int .i64 (x1), .int .i64 (x2)] gI wI (fun _ _ v => v = .bool (r)) := by
 unfold f187 at h
 refine fn_of_E Try.func187 rfl (Nat.le_of_ble_eq_true rfl) fun g0 hm hfr => ?_
 have rp0 : RV g0.m wI x0 up0 := hm ▸ rp0
 show E _ 17 none _ _ _ _ _
 refine E_seq (E_region (EL_do .plain rfl (D_box (g := g0) rfl rp0 fun g1 w1 p1 hs q1 => ?_)))
 have hfr := hfr.ext hs
 refine EL_at (.bool false) rfl rfl ?_
 refine EL_nil (thn_n (E_seq (E_region (EL_mw (.int .i64 (x1)) rfl rfl ?_))))
 refine EL_p (fPtr p1 0) (P_fieldAddr at_221_0 rfl (PT.ptr q1)) rfl ?_
 have q2 := PT_field (part_TieTieHarness_0).1 q1
 refine EL_p (fPtr (fPtr p1 0) 1) (P_fieldAddr at_28_1 rfl (PT.ptr q2)) rfl ?_
 have q3 := PT_field (part_TieHarness_1).1 q2
 refine EL_do .plain rfl (D_load (g := g1) Try.isAgg26 Try.sizeOf26 rfl q3 fun v4 r4 => ?_)
 refine EL_mw (.int .i64 (x2)) rfl rfl ?_
 obtain ⟨y5, hy5, h⟩ := bsome h
 refine EL_p (ePtr v4 x2 1) (P_indexAddr (α := Int) Try.underlying26 Try.sizeOf3 rfl r4 rfl hy5) rfl ?_
 have q6 := PT_idx r4 hy5
 refine EL_do .plain rfl (D_load (g := g1) Try.isAgg3 Try.sizeOf3 rfl q6 fun v7 r7 => ?_)
 obtain rfl := RV_int.1 r7
 obtain ⟨y8, o0, h⟩ := bsome h
 refine EL_p (.int .i64 (y8)) (P_int rfl rfl (congrArg (Option.map (Value.int .i64)) o0)) rfl ?_
 refine EL_in (.int .i64 ((bit64 .and y8 (1 : Int)))) rfl rfl rfl rfl ?_
 refine EL_in (.bool (((bit64 .and y8 (1 : Int)) == (1 : Int)))) rfl rfl rfl rfl ?_
 refine EL_at (.bool (((bit64 .and y8 (1 : Int)) == (1 : Int)))) rfl rfl ?_
 refine EL_nil (thn_n (E_ret ?_))
 obtain rfl := sinj h
 exact end1 rfl rfl (show _ = .bool (((bit64 .and y8 (1 : Int)) == (1 : Int))) from rfl) ⟨_, hfr, rfl⟩
def f192 (x0 : Int) (z0 : Int) (z1 : Int) : Option (Bool) :=
 Option.bind (α := Bool) (
  bif (decide (x0 < z0)) then
   some (true)
  else
   some ((decide (x0 > z1)))
  ) fun o0 =>
 some (o0)
theorem en192 : Enters Try.prog 192 := enters_of Try.func192 (by kernel_rfl) rfl
theorem wk192 {gI : Gh} {wI : World} {x0 : Int} {z0 : Int} {z1 : Int} {pf0 : Value} (qf0 : PT gI.m wI z0 pf0) {pf1 : Value} (qf1 : PT gI.m wI z1 pf1) {r : Bool} (h : f192 x0 z0 z1 = some r) : Fn Try.prog 192 #[.int .i64 (x0), pf0, pf1] gI wI (fun _ _ v => v = .bool (r)) := by
 unfold f192 at h
 refine fn_of_E Try.func192 rfl (Nat.le_of_ble_eq_true rfl) fun g0 hm hfr => ?_
 have qf0 : PT g0.m wI z0 pf0 := hm ▸ qf0
 have qf1 : PT g0.m wI z1 pf1 := hm ▸ qf1
 show E _ 13 none _ _ _ _ _
 refine E_seq (E_region (EL_at (.bool false) rfl rfl ?_))
 refine EL_nil (thn_n ?_)
 obtain ⟨o0, hx, h⟩ := bsome h
 refine E_join (fun e w => ∃ (g : Gh) , Fr gI wI g w ∧ e 4 = .bool (o0)) (fun Q' hQ => ?_) (fun l5 w7 hR => ?_)
 ·replace h := hx
  clear hx
  refine E_region (EL_mw (.int .i64 (x0)) rfl rfl ?_)
  refine EL_do .plain rfl (D_load (g := g0) Try.isAgg3 Try.sizeOf3 rfl qf0 fun v4 r4 => ?_)
  obtain rfl := RV_int.1 r4
  refine EL_in (.bool ((decide (x0 < z0)))) rfl rfl rfl rfl ?_
  refine EL_mw (.bool ((decide (x0 < z0)))) rfl rfl ?_
  rcases csome h with ⟨hc5, h⟩ | ⟨hc5, h⟩
  ·refine EL_s rfl rfl hc5 rfl rfl ?_
   refine EL_s rfl rfl hc5 rfl rfl ?_
   refine EL_s rfl rfl hc5 rfl rfl ?_
   refine EL_p (.bool true) (P_pick (b := (decide (x0 < z0))) rfl (pick_t hc5 rfl)) rfl ?_
   refine EL_at (.bool true) rfl rfl ?_
   refine EL_nil ?_
   obtain rfl := sinj h
   exact hQ _ _ ⟨g0, hfr, rfl⟩
  ·refine EL_y (.int .i64 (x0)) (P_move rfl) rfl rfl hc5 rfl ?_
   refine EL_do (.yes2 rfl rfl hc5) rfl (D_load (g := g0) Try.isAgg3 Try.sizeOf3 rfl qf1 fun v6 r6 => ?_)
   obtain rfl := RV_int.1 r6
   refine EL_y (.bool ((decide (x0 > z1)))) (P_int rfl rfl rfl) rfl rfl hc5 rfl ?_
   refine EL_p (.bool ((decide (x0 > z1)))) (P_pick (b := (decide (x0 < z0))) rfl (pick_f hc5 rfl)) rfl ?_
   refine EL_at (.bool ((decide (x0 > z1)))) rfl rfl ?_
   refine EL_nil ?_
   obtain rfl := sinj h
   exact hQ _ _ ⟨g0, hfr, rfl⟩
 ·clear hx
  obtain ⟨g7, hfr, u3⟩ := hR
  refine E_ret ?_
  obtain rfl := sinj h
  exact end1 rfl rfl (show _ = .bool (o0) from u3) ⟨_, hfr, rfl⟩
def f211 (z0 : List ChainCard) (σ : Type) (cons : Cons σ ChainCard) (s0 : σ) : Option σ :=
 lp (σ := σ × Int) (fun k2 (x5, o0) =>
  bif (decide (o0 < ((z0).length : Int))) then
   jn (σ := σ) (fun l5 =>
    k2 (l5, (w64 (o0 + (1 : Int))))
    ) fun d9 =>
   (idx z0 o0).bind fun i7 =>
   (cons x5 i7).bind fun (i6, t5) =>
   bif (!i6) then
    some t5
   else
    d9 (t5)
  else
   some x5
  ) big (s0, (0 : Int))
theorem en211 : Enters Try.prog 211 := enters_of Try.func211 (by kernel_rfl) rfl
theorem wk211 {σ : Type} {cons : Cons σ ChainCard} {s0 r : σ} {gI : Gh} {wI : World} {z0 : List ChainCard} {pf0 : Value} (qf0 : PT gI.m wI z0 pf0) (h : f211 z0 σ cons s0 = some r) : IterC Try.prog (RA1 (α := ChainCard)) 211 #[] #[pf0] gI wI cons s0 r := by
 unfold f211 at h
 refine iter_of_E Try.func211 rfl (Nat.le_of_ble_eq_true rfl) fun l B J g0 hm hAb hRo hfr => ?_
 have qf0 : PT g0.m wI z0 pf0 := hm ▸ qf0
 show E _ 16 none _ _ (envAt #[.func (.yield l) #[] #[], pf0]) _ _
 refine E_seq (E_region (EL_do .plain rfl (D_load (g := g0) Try.isAgg108 Try.sizeOf108 rfl qf0 fun v1 r1 => ?_)))
 refine EL_p (.int .i64 ((z0).length : Int)) (P_len Try.underlying108 rfl r1) rfl ?_
 refine EL_mw (.int .i64 (0)) rfl rfl ?_
 refine EL_nil (thn_n (E_block ?_))
 refine E_lp h (fun (s : σ × Int) e w => ∃ (g : Gh) , FrY gI wI B J (s.1) g w ∧ e 0 = (.func (.yield l) #[] #[]) ∧ e 5 = v1 ∧ RV g.m w (z0 : List ChainCard) v1 ∧ e 6 = .int .i64 (((z0).length : Int)) ∧ e 7 = .int .i64 (s.2)) ⟨g0, hfr, rfl, rfl, r1, rfl, rfl⟩ (fun X2 k2 hk2 => ?_)
 rintro ⟨x5, o0⟩ dB w3 ⟨g3, hfr, m7, g8, u3, k8, x6⟩ h
 refine E_seq (E_region (EL_in (.bool ((decide (o0 < ((z0).length : Int))))) x6 k8 rfl rfl ?_))
 refine EL_nil (thn_n (E_seq ?_))
 rcases csome h with ⟨hc4, h⟩ | ⟨hc4, h⟩
 ·refine E_ct hc4 rfl ?_
  refine E_skip (thn_n (E_joinC h (fun (s : σ) e w => ∃ (g : Gh) , FrY gI wI B J (s) g w ∧ e 0 = (.func (.yield l) #[] #[]) ∧ e 5 = v1 ∧ RV g.m w (z0 : List ChainCard) v1 ∧ e 6 = .int .i64 (((z0).length : Int)) ∧ e 7 = .int .i64 (o0)) (fun X14 d9 l9 h => ?_) ?_))
  ·refine E_block ?_
   refine E_seq (E_region ?_)
   obtain ⟨i7, l8, h⟩ := bsome h
   refine EL_p (ePtr v1 o0 3) (P_indexAddr (α := ChainCard) Try.underlying108 Try.sizeOf137 g8 u3 x6 l8) rfl ?_
   have u9 := PT_idx u3 l8
   refine EL_do .plain rfl (D_load (g := g3) Try.isAgg137 Try.sizeOf137 rfl u9 fun y9 m8 => ?_)
   refine EL_do .plain rfl (D_allocOc (g := g3) 2004 (⟨0, 0, false⟩ : ChainCard) Try.zeroValue137 (fun m w => ⟨_, (rep_two rep_int (rep_two rep_int rep_bool)), rfl⟩) fun z9 iB lB hs b18 cb => ?_)
   have hfr := hfr.stp_ hAb hs rfl
   have u3 := u3.stp hs
   have m8 := m8.stp hs
   clear cb
   refine EL_do .plain rfl (D_storeOc (g := z9) (v := y9) Try.sizeOf137 rfl b18 rfl m8 fun k9 mB hs b19 cb => ?_)
   clear cb
   have hfr := hfr.stp_ hAb hs rfl
   have u3 := u3.stp hs
   refine EL_nil (thn_n (E_seq (E_region (EL_mv m7 rfl ?_))))
   refine EL_do .plain rfl (D_loadO (g := k9) Try.isAgg137 Try.sizeOf137 rfl b19 fun nB bA => ?_)
   obtain ⟨iA, n9, h⟩ := bsome h
   obtain ⟨i6, t5⟩ := iA
   refine EL_do .plain rfl (D_yield (g := k9) (x := i7) rfl (.cons rfl .nil) hRo hfr n9 ⟨_, rfl, bA⟩ fun rA oB hs hfrY => ?_)
   have u3 := u3.stp hs
   have hfr := hfrY
   clear hfrY
   refine EL_p (.bool (!i6)) (P_not rfl) rfl ?_
   refine EL_nil (thn_n ?_)
   rcases csome h with ⟨y6, h⟩ | ⟨y6, h⟩
   ·refine E_ct y6 rfl ?_
    refine E_ret (blk_r ?_)
    refine thn_r ?_
    refine thn_r ?_
    refine blk_r ?_
    obtain rfl := sinj h
    exact end0 rfl rfl (FrY.done hfr)
   ·refine E_cf y6 rfl ?_
    exact E_skip (blk_n (thn_n (l9 (t5) _ _ ⟨rA, hfr, m7, g8, u3, k8, x6⟩ h)))
  ·rintro l5 aB tB ⟨yA, hfr, n8, r8, v8, x8, a9⟩ h
   refine E_region (EL_in (.int .i64 ((w64 (o0 + (1 : Int))))) a9 rfl rfl rfl ?_)
   refine EL_mw (.int .i64 ((w64 (o0 + (1 : Int))))) rfl rfl ?_
   exact EL_nil (thn_n (hk2 (l5, (w64 (o0 + (1 : Int)))) _ _ ⟨yA, hfr, n8, r8, v8, x8, rfl⟩ h))
 ·refine E_cf hc4 rfl ?_
  refine E_exit ?_
  refine thn_e ?_
  refine thn_e ?_
  refine blk_hit ?_
  obtain rfl := sinj h
  exact end0n rfl rfl (FrY.done hfr)
def f212 (x0 : Int) : Option (Bool) :=
 some ((x0 != x0))
theorem en212 : Enters Try.prog 212 := enters_of Try.func212 (by kernel_rfl) rfl
theorem wk212 {gI : Gh} {wI : World} {x0 : Int}  {r : Bool} (h : f212 x0 = some r) : Fn Try.prog 212 #[.int .i64 (x0)] gI wI (fun _ _ v => v = .bool (r)) := by
 unfold f212 at h
 refine fn_of_E Try.func212 rfl (Nat.le_of_ble_eq_true rfl) fun g0 hm hfr => ?_
 show E _ 6 none _ _ _ _ _
 refine E_seq (E_region (EL_at (.bool false) rfl rfl ?_))
 refine EL_nil (thn_n (E_seq (E_region (EL_mw (.int .i64 (x0)) rfl rfl ?_))))
 refine EL_mw (.int .i64 (x0)) rfl rfl ?_
 refine EL_in (.bool ((x0 != x0))) rfl rfl rfl rfl ?_
 refine EL_at (.bool ((x0 != x0))) rfl rfl ?_
 refine EL_nil (thn_n (E_ret ?_))
 obtain rfl := sinj h
 exact end1 rfl rfl (show _ = .bool ((x0 != x0)) from rfl) ⟨_, hfr, rfl⟩
def f241 (x0 : Int) (z0 : Int) (z1 : Int) : Option (Bool) :=
 Option.bind (α := Bool) (
  bif (decide (x0 < z0)) then
   some (true)
  else
   some ((decide (x0 > z1)))
  ) fun o0 =>
 some (o0)
theorem en241 : Enters Try.prog 241 := enters_of Try.func241 (by kernel_rfl) rfl
theorem wk241 {gI : Gh} {wI : World} {x0 : Int} {z0 : Int} {z1 : Int} {pf0 : Value} (qf0 : PT gI.m wI z0 pf0) {pf1 : Value} (qf1 : PT gI.m wI z1 pf1) {r : Bool} (h : f241 x0 z0 z1 = some r) : Fn Try.prog 241 #[.int .i64 (x0), pf0, pf1] gI wI (fun _ _ v => v = .bool (r)) := by
 unfold f241 at h
 refine fn_of_E Try.func241 rfl (Nat.le_of_ble_eq_true rfl) fun g0 hm hfr => ?_
 have qf0 : PT g0.m wI z0 pf0 := hm ▸ qf0
 have qf1 : PT g0.m wI z1 pf1 := hm ▸ qf1
 show E _ 13 none _ _ _ _ _
 refine E_seq (E_region (EL_at (.bool false) rfl rfl ?_))
 refine EL_nil (thn_n ?_)
 obtain ⟨o0, hx, h⟩ := bsome h
 refine E_join (fun e w => ∃ (g : Gh) , Fr gI wI g w ∧ e 4 = .bool (o0)) (fun Q' hQ => ?_) (fun l5 w7 hR => ?_)
 ·replace h := hx
  clear hx
  refine E_region (EL_mw (.int .i64 (x0)) rfl rfl ?_)
  refine EL_do .plain rfl (D_load (g := g0) Try.isAgg3 Try.sizeOf3 rfl qf0 fun v4 r4 => ?_)
  obtain rfl := RV_int.1 r4
  refine EL_in (.bool ((decide (x0 < z0)))) rfl rfl rfl rfl ?_
  refine EL_mw (.bool ((decide (x0 < z0)))) rfl rfl ?_
  rcases csome h with ⟨hc5, h⟩ | ⟨hc5, h⟩
  ·refine EL_s rfl rfl hc5 rfl rfl ?_
   refine EL_s rfl rfl hc5 rfl rfl ?_
   refine EL_s rfl rfl hc5 rfl rfl ?_
   refine EL_p (.bool true) (P_pick (b := (decide (x0 < z0))) rfl (pick_t hc5 rfl)) rfl ?_
   refine EL_at (.bool true) rfl rfl ?_
   refine EL_nil ?_
   obtain rfl := sinj h
   exact hQ _ _ ⟨g0, hfr, rfl⟩
  ·refine EL_y (.int .i64 (x0)) (P_move rfl) rfl rfl hc5 rfl ?_
   refine EL_do (.yes2 rfl rfl hc5) rfl (D_load (g := g0) Try.isAgg3 Try.sizeOf3 rfl qf1 fun v6 r6 => ?_)
   obtain rfl := RV_int.1 r6
   refine EL_y (.bool ((decide (x0 > z1)))) (P_int rfl rfl rfl) rfl rfl hc5 rfl ?_
   refine EL_p (.bool ((decide (x0 > z1)))) (P_pick (b := (decide (x0 < z0))) rfl (pick_f hc5 rfl)) rfl ?_
   refine EL_at (.bool ((decide (x0 > z1)))) rfl rfl ?_
   refine EL_nil ?_
   obtain rfl := sinj h
   exact hQ _ _ ⟨g0, hfr, rfl⟩
 ·clear hx
  obtain ⟨g7, hfr, u3⟩ := hR
  refine E_ret ?_
  obtain rfl := sinj h
  exact end1 rfl rfl (show _ = .bool (o0) from u3) ⟨_, hfr, rfl⟩
def f264 (x1 : It ChainCard) : Option ((List ChainCard)) :=
 Option.bind (α := (List ChainCard)) (
  (x1 ((List ChainCard)) (fun x6 i6 =>
   (apnd 24 x6 (([i6] : List ChainCard))).bind fun i7 =>
   some (true, (i7))
   ) ((([] : List ChainCard) : List ChainCard))).bind fun y6 =>
  some (y6)
  ) fun t5 =>
 some (t5)
theorem en264 : Enters Try.prog 264 := enters_of Try.func264 (by kernel_rfl) rfl
def f272 (x1 : It Int) : Option ((List Int)) :=
 Option.bind (α := (List Int)) (
  (x1 ((List Int)) (fun i6 t5 =>
   (apnd 8 i6 (([t5] : List Int))).bind fun y6 =>
   some (true, (y6))
   ) ((([] : List Int) : List Int))).bind fun x6 =>
  some (x6)
  ) fun x5 =>
 some (x5)
theorem en272 : Enters Try.prog 272 := enters_of Try.func272 (by kernel_rfl) rfl
def f276 (z0 : Int) (z1 : Int) (σ : Type) (cons : Cons σ Int) (s0 : σ) : Option σ :=
 Option.bind (α := Int) (
  bif (decide (z0 < z1)) then
   some ((-1 : Int))
  else
   some ((1 : Int))
  ) fun u3 =>
 lp (σ := σ × Int) (fun k9 (n8, o0) =>
  jn (σ := σ) (fun i7 =>
   k9 (i7, (w64 (o0 + u3)))
   ) fun aB =>
  Option.bind (α := σ × Bool) (
   (cons n8 o0).bind fun (x6, l8) =>
   bif (!x6) then
    some (l8, true)
   else
    some (l8, (o0 == z0))
   ) fun (x5, t5) =>
  bif t5 then
   some x5
  else
   aB (x5)
  ) big (s0, z1)
theorem en276 : Enters Try.prog 276 := enters_of Try.func276 (by kernel_rfl) rfl
theorem wk276 {σ : Type} {cons : Cons σ Int} {s0 r : σ} {gI : Gh} {wI : World} {z0 : Int} {z1 : Int} {pf0 : Value} (qf0 : PT gI.m wI z0 pf0) {pf1 : Value} (qf1 : PT gI.m wI z1 pf1) (h : f276 z0 z1 σ cons s0 = some r) : IterC Try.prog (RA1 (α := Int)) 276 #[] #[pf0, pf1] gI wI cons s0 r := by
 unfold f276 at h
 refine iter_of_E Try.func276 rfl (Nat.le_of_ble_eq_true rfl) fun l B J g0 hm hAb hRo hfr => ?_
 have qf0 : PT g0.m wI z0 pf0 := hm ▸ qf0
 have qf1 : PT g0.m wI z1 pf1 := hm ▸ qf1
 show E _ 22 none _ _ (envAt #[.func (.yield l) #[] #[], pf0, pf1]) _ _
 refine E_seq (E_region (EL_at (.int .i64 (1)) rfl rfl ?_))
 refine EL_nil (thn_n ?_)
 obtain ⟨u3, hx, h⟩ := bsome h
 refine E_join (fun e w => ∃ (g : Gh) , FrY gI wI B J (s0) g w ∧ e 0 = (.func (.yield l) #[] #[]) ∧ e 1 = pf0 ∧ PT g.m w (z0 : Int) pf0 ∧ e 2 = pf1 ∧ PT g.m w (z1 : Int) pf1 ∧ e 4 = .int .i64 (u3)) (fun Q' hQ => ?_) (fun bD w7 hR => ?_)
 ·replace h := hx
  clear hx
  refine E_seq (E_region (EL_do .plain rfl (D_load (g := g0) Try.isAgg3 Try.sizeOf3 rfl qf0 fun v4 r4 => ?_)))
  obtain rfl := RV_int.1 r4
  refine EL_do .plain rfl (D_load (g := g0) Try.isAgg3 Try.sizeOf3 rfl qf1 fun v5 r5 => ?_)
  obtain rfl := RV_int.1 r5
  refine EL_in (.bool ((decide (z0 < z1)))) rfl rfl rfl rfl ?_
  refine EL_nil (thn_n ?_)
  rcases csome h with ⟨hc6, h⟩ | ⟨hc6, h⟩
  ·refine E_ct hc6 rfl ?_
   refine E_region (EL_at (.int .i64 (-1)) rfl rfl ?_)
   refine EL_nil ?_
   obtain rfl := sinj h
   exact hQ _ _ ⟨g0, hfr, rfl, rfl, qf0, rfl, qf1, rfl⟩
  ·refine E_cf hc6 rfl ?_
   refine E_skip ?_
   obtain rfl := sinj h
   exact hQ _ _ ⟨g0, hfr, rfl, rfl, qf0, rfl, qf1, rfl⟩
 ·clear hx
  obtain ⟨g7, hfr, dB, iB, lB, mB, nB, oB⟩ := hR
  refine E_seq (E_region (EL_do .plain rfl (D_load (g := g7) Try.isAgg3 Try.sizeOf3 mB nB fun v8 r8 => ?_)))
  obtain rfl := RV_int.1 r8
  refine EL_at (.int .i64 (z1)) rfl rfl ?_
  refine EL_nil (thn_n (E_block ?_))
  refine E_lp h (fun (s : σ × Int) e w => ∃ (g : Gh) , FrY gI wI B J (s.1) g w ∧ e 0 = (.func (.yield l) #[] #[]) ∧ e 1 = pf0 ∧ PT g.m w (z0 : Int) pf0 ∧ e 4 = .int .i64 (u3) ∧ e 5 = .int .i64 (s.2)) ⟨g7, hfr, dB, iB, lB, oB, rfl⟩ (fun X9 k9 yB => ?_)
  rintro ⟨n8, o0⟩ uC cD ⟨zB, hfr, m7, g8, i6, x8, y6⟩ h
  refine E_joinC h (fun (s : σ) e w => ∃ (g : Gh) , FrY gI wI B J (s) g w ∧ e 0 = (.func (.yield l) #[] #[]) ∧ e 1 = pf0 ∧ PT g.m w (z0 : Int) pf0 ∧ e 4 = .int .i64 (u3) ∧ e 5 = .int .i64 (o0)) (fun X21 aB tB h => ?_) ?_
  ·refine E_block ?_
   obtain ⟨⟨x5, t5⟩, hx, h⟩ := bsome h
   refine E_join (fun e w => ∃ (g : Gh) , FrY gI wI B J (x5) g w ∧ e 0 = (.func (.yield l) #[] #[]) ∧ e 1 = pf0 ∧ PT g.m w (z0 : Int) pf0 ∧ e 4 = .int .i64 (u3) ∧ e 5 = .int .i64 (o0) ∧ e 21 = .bool (t5)) (fun Q' hQ => ?_) (fun vC eD hR => ?_)
   ·replace h := hx
    clear hx
    refine E_region (EL_mv m7 rfl ?_)
    refine EL_mv y6 rfl ?_
    obtain ⟨cC, vB, h⟩ := bsome h
    obtain ⟨x6, l8⟩ := cC
    refine EL_do .plain rfl (D_yield (g := zB) (x := o0) rfl (.cons rfl .nil) hRo hfr vB ⟨_, rfl, (RV_int.2 rfl)⟩ fun d9 gD hs hfrY => ?_)
    have i6 := i6.stp hs
    have hfr := hfrY
    clear hfrY
    refine EL_p (.bool (!x6)) (P_not rfl) rfl ?_
    refine EL_mw (.bool (!x6)) rfl rfl ?_
    rcases csome h with ⟨l5, h⟩ | ⟨l5, h⟩
    ·refine EL_s rfl rfl l5 rfl rfl ?_
     refine EL_s rfl rfl l5 rfl rfl ?_
     refine EL_s rfl rfl l5 rfl rfl ?_
     refine EL_p (.bool true) (P_pick (b := (!x6)) rfl (pick_t l5 rfl)) rfl ?_
     refine EL_nil ?_
     obtain ⟨rfl, rfl⟩ := pairs2 h
     exact hQ _ _ ⟨d9, hfr, m7, g8, i6, x8, y6, rfl⟩
    ·refine EL_y (.int .i64 (o0)) (P_move y6) rfl rfl l5 rfl ?_
     refine EL_do (.yes2 rfl rfl l5) rfl (D_load (g := d9) Try.isAgg3 Try.sizeOf3 g8 i6 fun iD mC => ?_)
     obtain rfl := RV_int.1 mC
     refine EL_y (.bool ((o0 == z0))) (P_int rfl rfl rfl) rfl rfl l5 rfl ?_
     refine EL_p (.bool ((o0 == z0))) (P_pick (b := (!x6)) rfl (pick_f l5 rfl)) rfl ?_
     refine EL_nil ?_
     obtain ⟨rfl, rfl⟩ := pairs2 h
     exact hQ _ _ ⟨d9, hfr, m7, g8, i6, x8, y6, rfl⟩
   ·clear hx
    obtain ⟨qC, hfr, l9, n9, u9, y9, z9, k8⟩ := hR
    rcases csome h with ⟨m8, h⟩ | ⟨m8, h⟩
    ·refine E_cond_true (Eq.trans (show ev _ _ = .bool (t5) from k8) (congrArg Value.bool m8)) ?_
     refine E_ret (blk_r ?_)
     refine thn_r ?_
     refine thn_r ?_
     refine blk_r ?_
     obtain rfl := sinj h
     exact end0 rfl rfl (FrY.done hfr)
    ·refine E_cond_false (Eq.trans (show ev _ _ = .bool (t5) from k8) (congrArg Value.bool m8)) ?_
     exact E_skip (blk_n (thn_n (tB (x5) _ _ ⟨qC, hfr, l9, n9, u9, y9, z9⟩ h)))
  ·rintro i7 aD jD ⟨rC, hfr, bA, iA, rA, a9, yA⟩ h
   refine E_region (EL_mv yA rfl ?_)
   refine EL_mv a9 rfl ?_
   refine EL_in (.int .i64 ((w64 (o0 + u3)))) rfl rfl rfl rfl ?_
   refine EL_at (.int .i64 ((w64 (o0 + u3)))) rfl rfl ?_
   exact EL_nil (thn_n (yB (i7, (w64 (o0 + u3))) _ _ ⟨rC, hfr, bA, iA, rA, a9, rfl⟩ h))
def f277 (x0 : List ChainCard) (x1 : ChainCard → Option Bool) : Option (Int) :=
 jn (σ := Unit) (fun _ =>
  some ((-1 : Int))
  ) fun k18 =>
 lp (σ := Int) (fun k19 o0 =>
  bif (decide (o0 < ((x0).length : Int))) then
   jn (σ := Unit) (fun _ =>
    k19 ((w64 (o0 + (1 : Int))))
    ) fun k28 =>
   (idx x0 o0).bind fun r8 =>
   (x1 r8).bind fun v8 =>
   bif v8 then
    some (o0)
   else
    k28 ()
  else
   k18 ()
  ) big ((0 : Int))
theorem en277 : Enters Try.prog 277 := enters_of Try.func277 (by kernel_rfl) rfl
theorem wk277 {gI : Gh} {wI : World} {x0 : List ChainCard} {x1 : ChainCard → Option Bool} {up0 : Value} (rp0 : RV gI.m wI x0 up0) {up1 : Value} (rp1 : FnV1 Try.prog x1 up1 gI wI) {r : Int} (h : f277 x0 x1 = some r) : Fn Try.prog 277 #[up0, up1] gI wI (fun _ _ v => v = .int .i64 (r)) := by
 unfold f277 at h
 refine fn_of_E Try.func277 rfl (Nat.le_of_ble_eq_true rfl) fun g0 hm hfr => ?_
 have rp0 : RV g0.m wI x0 up0 := hm ▸ rp0
 obtain ⟨ff1, fa1, fc1, rfl, fen1, fcl1⟩ := rp1
 show E _ 19 none _ _ _ _ _
 refine E_seq (E_region (EL_at (.int .i64 (0)) rfl rfl ?_))
 refine EL_nil (thn_n (E_joinC h (fun (s : Unit) e w => ∃ (g : Gh) , Fr gI wI g w) (fun X18 k18 x8 h => ?_) ?_))
 ·refine E_seq (E_region (EL_mw up0 rfl rfl ?_))
  refine EL_p (.int .i64 ((x0).length : Int)) (P_len Try.underlying108 rfl rp0) rfl ?_
  refine EL_mw (.int .i64 (0)) rfl rfl ?_
  refine EL_nil (thn_n (E_block ?_))
  refine E_lp h (fun (s : Int) e w => ∃ (g : Gh) , Fr gI wI g w ∧ e 0 = up0 ∧ RV g.m w (x0 : List ChainCard) up0 ∧ e 1 = (.func (.func ff1) fa1 fc1) ∧ e 7 = .int .i64 (((x0).length : Int)) ∧ e 8 = .int .i64 (s)) ⟨g0, hfr, rfl, rp0, rfl, rfl, rfl⟩ (fun X19 k19 a9 => ?_)
  rintro o0 bA yA ⟨i7, hfr, i6, u3, x6, y6, l5⟩ h
  refine E_seq (E_region (EL_in (.bool ((decide (o0 < ((x0).length : Int))))) l5 y6 rfl rfl ?_))
  refine EL_nil (thn_n (E_seq ?_))
  rcases csome h with ⟨t5, h⟩ | ⟨t5, h⟩
  ·refine E_ct t5 rfl ?_
   refine E_skip (thn_n (E_joinC h (fun (s : Unit) e w => ∃ (g : Gh) , Fr gI wI g w ∧ e 0 = up0 ∧ RV g.m w (x0 : List ChainCard) up0 ∧ e 1 = (.func (.func ff1) fa1 fc1) ∧ e 7 = .int .i64 (((x0).length : Int)) ∧ e 8 = .int .i64 (o0)) (fun X28 k28 d9 h => ?_) ?_))
   ·refine E_block ?_
    refine E_seq (E_region (EL_mv l5 rfl ?_))
    refine EL_at (.int .i64 (o0)) rfl rfl ?_
    refine EL_nil (thn_n (E_seq (E_region (EL_mv x6 rfl ?_))))
    refine EL_mv i6 rfl ?_
    refine EL_mw (.int .i64 (o0)) rfl rfl ?_
    obtain ⟨r8, m7, h⟩ := bsome h
    refine EL_p (ePtr up0 o0 3) (P_indexAddr (α := ChainCard) Try.underlying108 Try.sizeOf137 rfl u3 rfl m7) rfl ?_
    have l9 := PT_idx u3 m7
    refine EL_do .plain rfl (D_load (g := i7) Try.isAgg137 Try.sizeOf137 rfl l9 fun n9 u9 => ?_)
    obtain ⟨v8, k9, h⟩ := bsome h
    refine EL_do .plain rfl (D_callv (g := i7) (vs := [n9]) rfl fen1 (.cons rfl .nil) (fcl1 _ _ hfr.ch _ _ _  u9 k9) fun y9 aB dB hs hr => ?_)
    have hfr := hfr.ext hs
    have u3 := u3.ext hs
    obtain rfl := RV_bool.1 hr
    refine EL_nil (thn_n ?_)
    rcases csome h with ⟨x5, h⟩ | ⟨x5, h⟩
    ·refine E_ct x5 rfl ?_
     refine E_seq (E_region (EL_mw (.int .i64 (o0)) rfl rfl ?_))
     refine EL_at (.int .i64 (o0)) rfl rfl ?_
     refine EL_nil (thn_n (E_ret (blk_r ?_)))
     refine thn_r ?_
     refine thn_r ?_
     refine blk_r ?_
     refine thn_r ?_
     obtain rfl := sinj h
     exact end1 rfl rfl (show _ = .int .i64 (o0) from rfl) ⟨_, hfr, rfl⟩
    ·refine E_cf x5 rfl ?_
     exact E_skip (blk_n (thn_n (d9 () _ _ ⟨y9, hfr, i6, u3, x6, y6, l5⟩ h)))
   ·rintro _ iA iB ⟨z9, hfr, g8, k8, l8, m8, n8⟩ h
    refine E_region (EL_in (.int .i64 ((w64 (o0 + (1 : Int))))) n8 rfl rfl rfl ?_)
    refine EL_mw (.int .i64 ((w64 (o0 + (1 : Int))))) rfl rfl ?_
    exact EL_nil (thn_n (a9 ((w64 (o0 + (1 : Int)))) _ _ ⟨z9, hfr, g8, k8, l8, m8, rfl⟩ h))
  ·refine E_cf t5 rfl ?_
   refine E_exit ?_
   refine thn_e ?_
   refine thn_e ?_
   refine blk_hit ?_
   exact thn_n (x8 () _ _ ⟨i7, hfr⟩ h)
 ·rintro _ rA lB ⟨mB, hfr⟩ h
  refine E_seq (E_region (EL_at (.int .i64 (-1)) rfl rfl ?_))
  refine EL_nil (thn_n (E_ret ?_))
  obtain rfl := sinj h
  exact end1 rfl rfl (show _ = .int .i64 (-1) from rfl) ⟨_, hfr, rfl⟩
def f278 (x0 : U64) : Option (U64) :=
 (shr64 ((x0).n) ((8 : Int))).bind fun y1 =>
 (shlU (bitU .and ((x0).n) ((71777214294589695 : Int))) ((8 : Int))).bind fun y2 =>
 (shr64 (bitU .or (bitU .and y1 ((71777214294589695 : Int))) y2) ((16 : Int))).bind fun y3 =>
 (shlU (bitU .and (bitU .or (bitU .and y1 ((71777214294589695 : Int))) y2) ((281470681808895 : Int))) ((16 : Int))).bind fun y4 =>
 (shr64 (bitU .or (bitU .and y3 ((281470681808895 : Int))) y4) ((32 : Int))).bind fun y5 =>
 (shlU (bitU .or (bitU .and y3 ((281470681808895 : Int))) y4) ((32 : Int))).bind fun y6 =>
 some ((⟨bitU .or y5 y6⟩ : U64))
theorem en278 : Enters Try.prog 278 := enters_of Try.func278 (by kernel_rfl) rfl
theorem wk278 {gI : Gh} {wI : World} {x0 : U64}  {r : U64} (h : f278 x0 = some r) : Fn Try.prog 278 #[.int .u64 ((x0).n)] gI wI (fun _ _ v => v = .int .u64 ((r).n)) := by
 unfold f278 at h
 refine fn_of_E Try.func278 rfl (Nat.le_of_ble_eq_true rfl) fun g0 hm hfr => ?_
 show E _ 22 none _ _ _ _ _
 refine E_seq (E_region (EL_at (.int .u64 (0)) rfl rfl ?_))
 refine EL_nil (thn_n (E_seq (E_region (EL_mw (.int .u64 ((x0).n)) rfl rfl ?_))))
 obtain ⟨y1, hy1, h⟩ := bsome h
 refine EL_p (.int .u64 (y1)) (P_shrU rfl rfl hy1) rfl ?_
 refine EL_p (.int .u64 (bitU .and y1 ((71777214294589695 : Int)))) (P_bitU (by simp) rfl rfl) rfl ?_
 refine EL_mw (.int .u64 ((x0).n)) rfl rfl ?_
 refine EL_p (.int .u64 (bitU .and ((x0).n) ((71777214294589695 : Int)))) (P_bitU (by simp) rfl rfl) rfl ?_
 obtain ⟨y2, hy2, h⟩ := bsome h
 refine EL_p (.int .u64 (y2)) (P_shlU rfl rfl hy2) rfl ?_
 refine EL_p (.int .u64 (bitU .or (bitU .and y1 ((71777214294589695 : Int))) y2)) (P_bitU (by simp) rfl rfl) rfl ?_
 refine EL_at (.int .u64 (bitU .or (bitU .and y1 ((71777214294589695 : Int))) y2)) rfl rfl ?_
 refine EL_nil (thn_n (E_seq (E_region (EL_mw (.int .u64 (bitU .or (bitU .and y1 ((71777214294589695 : Int))) y2)) rfl rfl ?_))))
 obtain ⟨y3, hy3, h⟩ := bsome h
 refine EL_p (.int .u64 (y3)) (P_shrU rfl rfl hy3) rfl ?_
 refine EL_p (.int .u64 (bitU .and y3 ((281470681808895 : Int)))) (P_bitU (by simp) rfl rfl) rfl ?_
 refine EL_mw (.int .u64 (bitU .or (bitU .and y1 ((71777214294589695 : Int))) y2)) rfl rfl ?_
 refine EL_p (.int .u64 (bitU .and (bitU .or (bitU .and y1 ((71777214294589695 : Int))) y2) ((281470681808895 : Int)))) (P_bitU (by simp) rfl rfl) rfl ?_
 obtain ⟨y4, o0, h⟩ := bsome h
 refine EL_p (.int .u64 (y4)) (P_shlU rfl rfl o0) rfl ?_
 refine EL_p (.int .u64 (bitU .or (bitU .and y3 ((281470681808895 : Int))) y4)) (P_bitU (by simp) rfl rfl) rfl ?_
 refine EL_at (.int .u64 (bitU .or (bitU .and y3 ((281470681808895 : Int))) y4)) rfl rfl ?_
 refine EL_nil (thn_n (E_seq (E_region (EL_mw (.int .u64 (bitU .or (bitU .and y3 ((281470681808895 : Int))) y4)) rfl rfl ?_))))
 obtain ⟨y5, hy5, h⟩ := bsome h
 refine EL_p (.int .u64 (y5)) (P_shrU rfl rfl hy5) rfl ?_
 refine EL_mw (.int .u64 (bitU .or (bitU .and y3 ((281470681808895 : Int))) y4)) rfl rfl ?_
 obtain ⟨y6, u3, h⟩ := bsome h
 refine EL_p (.int .u64 (y6)) (P_shlU rfl rfl u3) rfl ?_
 refine EL_p (.int .u64 (bitU .or y5 y6)) (P_bitU (by simp) rfl rfl) rfl ?_
 refine EL_at (.int .u64 (bitU .or y5 y6)) rfl rfl ?_
 refine EL_nil (thn_n (E_ret ?_))
 obtain rfl := sinj h
 exact end1 rfl rfl (show _ = .int .u64 (bitU .or y5 y6) from rfl) ⟨_, hfr, rfl⟩
def f289 (x0 : List ChainCard) (x1 : Int) (x2 : Int) (x3 : ChainCard → ChainCard → Option Int) : Option ((List ChainCard)) :=
 lp (σ := (List ChainCard) × Int) (fun k1 (a9, x5) =>
  jn (σ := Unit) (fun _ =>
   Option.bind (α := (List ChainCard)) (
    lp (σ := (List ChainCard) × Int) (fun tB (l5, o0) =>
     jn (σ := Unit) (fun _ =>
      Option.bind (α := (List ChainCard)) (
       (idx l5 (w64 (o0 - (1 : Int)))).bind fun d9 =>
       (idx l5 o0).bind fun yA =>
       (idx l5 o0).bind fun dF =>
       (idx ((List.set l5 (Int.toNat o0) d9)) (w64 (o0 - (1 : Int)))).bind fun eF =>
       some ((List.set ((List.set l5 (Int.toNat o0) d9)) (Int.toNat (w64 (o0 - (1 : Int)))) yA))
       ) fun g8 =>
      tB (g8, (w64 (o0 - (1 : Int))))
      ) fun vB =>
     Option.bind (α := Bool) (
      bif (decide (o0 > x1)) then
       (idx l5 o0).bind fun yB =>
       (idx l5 (w64 (o0 - (1 : Int)))).bind fun zB =>
       (x3 yB zB).bind fun n8 =>
       some ((decide (n8 < (0 : Int))))
      else
       some (false)
      ) fun x6 =>
     bif x6 then
      vB ()
     else
      some (l5)
     ) big (a9, x5)
    ) fun k8 =>
   k1 (k8, (w64 (x5 + (1 : Int))))
   ) fun k4 =>
  bif (decide (x5 < x2)) then
   k4 ()
  else
   some (a9)
  ) big (x0, (w64 (x1 + (1 : Int))))
theorem en289 : Enters Try.prog 289 := enters_of Try.func289 (by kernel_rfl) rfl
theorem W59 {iO : Nat} {gI : Gh} {wI : World} {x0 : ChainBelt} {up0 : Value} (rp0 : RV gI.m wI x0 up0) {r : ChainBelt} (h : f59 x0 = some r) : FnG Try.prog 59 #[up0] gI wI (fun g w v => OWx ow_ChainBelt iO g w r v) := by
 unfold f59 at h
 refine fnG_of_E Try.func59 rfl (Nat.le_of_ble_eq_true rfl) fun g0 hm hfr => ?_
 have rp0 : RV g0.m wI x0 up0 := hm ▸ rp0
 show E _ 10 none _ _ _ _ _
 refine E_seq (E_region (EL_do .plain rfl (D_box (g := g0) rfl rp0 fun g1 w1 p1 hs q1 => ?_)))
 have hfr := hfr.ext hs
 refine EL_do .plain rfl (D_allocOc (g := g1) 2002 (⟨0, []⟩ : ChainBelt) Try.zeroValue110 (fun m w => ⟨_, (rep_two rep_int rep_nil), rfl⟩) fun g2 w2 p2 hs b2 cb => ?_)
 have hfr := hfr.stp hs
 have q1 := q1.stp hs
 have y6 : OSF 2002 60201 1 g2 w2 137 110 ([] : List ChainCard) p2 := cb.osf (by rfl)
 clear cb
 refine EL_nil (thn_n (E_seq ?_))
 have q3 := PT_field (part_ChainBelt_0).1 q1
 refine L_load (x := .tmp 3) Try.isAgg3 Try.sizeOf3 q3 fun v4 r4 x5 => ?_
 obtain rfl := RV_int.1 r4
 have q6 := PT_field (part_ChainBelt_1).1 q1
 refine L_load (x := .tmp 6) Try.isAgg108 Try.sizeOf108 q6 fun v7 r7 hl7 => ?_
 obtain ⟨y9, i6, h⟩ := bsome h
 refine E_drawL (g := g2) (n := 6) [(2, (fun v g w => RV g.m w ([] : List ChainCard) v ∧ OS 3005 g w 137 ([] : List ChainCard) v ∧ FullV v)), (5, (fun v g w => OA 3005 g w 137 y9 v))] [0, 1, 2, 3, 4, 5] rfl mixed (by kernel_rfl) (⟨fun _ => up_and up_rv (up_and up_os (up_eq _)), fun _ => up_oa, trivial⟩) ?_
 refine L_p (fPtr p1 0) rfl rfl (P_fieldAddr at_110_0 rfl (PT.ptr q1)) ?_
 refine L_ld (c := .int .i64 ((x0).Hooks)) rfl rfl .plain (fun _ _ h => h.ch) x5 rfl ?_
 refine L_do (φ := fun v g w => RV g.m w ([] : List ChainCard) v ∧ OS 3005 g w 137 ([] : List ChainCard) v ∧ FullV v) rfl rfl .plain (fun g w hd => D_buildSlice (g := g) 3005 (xs := ([] : List ChainCard)) (vs := []) Try.underlying108 Try.sizeOf137 Try.zeroValue137 rfl rfl .nil RVs.nil rfl rfl fun g' w' v hs o r hxt hfl => ⟨g', hxt, r, o, hfl⟩) (fun v5 hv => ?_)
 clear hv
 refine L_p (fPtr p1 1) rfl rfl (P_fieldAddr at_110_1 rfl (PT.ptr q1)) ?_
 refine L_ld (c := v7) rfl rfl .plain (fun _ _ h => h.ch) hl7 rfl ?_
 refine L_do (φ := fun v g w => OA 3005 g w 137 y9 v) rfl rfl .plain (fun g w hd => D_appendE (g := g) plain_ChainCard (i := 3005) Try.underlying108 info_137 rfl rfl (word (A := fun g w => RV g.m w ([] : List ChainCard) v5 ∧ OS 3005 g w 137 ([] : List ChainCard) v5 ∧ FullV v5) 2 rfl rfl (deps_of hd)).2.1 (word (A := fun g w => RV g.m w ([] : List ChainCard) v5 ∧ OS 3005 g w 137 ([] : List ChainCard) v5 ∧ FullV v5) 2 rfl rfl (deps_of hd)).2.2 rfl (r7.ext hd.1) i6 fun g' w' v hs b => ⟨g', hs, b⟩) (fun v8 hv => ?_)
 have sz8 : v8.cells.size = 1 := let ⟨_, _, _, hw⟩ := hv; OA.csz1 hw
 clear hv
 refine L_nil fun u3 x6 hall => ?_
 have hs := hall.1
 have hfr := hfr.ext hs
 have b2 := b2.ext hs
 have i7 := (word_all (A := fun g w => RV g.m w ([] : List ChainCard) v5 ∧ OS 3005 g w 137 ([] : List ChainCard) v5 ∧ FullV v5) 2 rfl hall).1
 have o16 := (word_all (A := fun g w => RV g.m w ([] : List ChainCard) v5 ∧ OS 3005 g w 137 ([] : List ChainCard) v5 ∧ FullV v5) 2 rfl hall).2.1
 have b19 := (word_all (A := fun g w => OA 3005 g w 137 y9 v8) 5 rfl hall)
 clear hs hall
 obtain ⟨sk21, ow21, ok21⟩ := OA.toW b19
 have wn22 := Wn.fl (OW.wn ow21)
 have wn23 := Wn.shp (x := ((x0).Hooks : Int)) (RV.cells (RV_int.2 rfl)) wn22
 obtain ⟨l5, o0⟩ : ∃ v, v = (Value.agg (setCh [[.int .i64 0], [.slice none 0 0]] [(0, .int .i64 ((x0).Hooks)), (1, v8)]).flatten.toArray) := ⟨_, rfl⟩
 have ow20 : OW ow_ChainBelt 3005 u3 x6 (⟨(x0).Hooks, y9⟩ : ChainBelt) ((), sk21) l5 := o0 ▸ Wn.mk_ (Wn.struct (x := ((⟨(x0).Hooks, y9⟩ : ChainBelt))) wn23)
 refine EL_p l5 (o0 ▸ P_build (vs := [(0, .int .i64 ((x0).Hooks)), (1, v8)]) [[.int .i64 0], [.slice none 0 0]] lay_110 rfl rfl (.cons rfl (.cons rfl .nil)) ⟨⟨_, rfl, rfl⟩, ⟨⟨_, rfl, OW.csz ow21⟩, trivial⟩⟩) rfl ?_
 refine EL_do .plain rfl (D_storeOW (g := u3) Try.sizeOf110 rfl b2 rfl ow20 rfl fun gj24 m7 g8 bk24 hsa hsb hpp b24 => ?_)
 have hfr := hfr.stp hsa
 have hfr := hfr.stp hsb
 clear hsa hsb
 subst hpp
 refine EL_nil (thn_n (E_ret ?_))
 obtain rfl := sinj h
 obtain ⟨k8, t5, ow25⟩ := OV.read (t := 110) Try.isAgg110 Try.sizeOf110 b24 rfl
 obtain ⟨gh, hxh, _, homh⟩ := OW.hand (i := iO) hfr ow25 (⟨trivial, ok21⟩ : (ow_ChainBelt).ok ((), sk21))
 exact endm_c rfl rfl (show _ = (Value.pointer (some ⟨bk24, 0, none⟩)) from rfl) t5 ⟨gh, hxh, homh⟩
def f103 (x0 : Int) (x1 : Int) (x2 : List Int) : Option (Bool) :=
 (f165 x2 ((fun a0 => f179 a0 x0 x1))).bind fun y4 =>
 some ((!y4))
theorem en103 : Enters Try.prog 103 := enters_of Try.func103 (by kernel_rfl) rfl
theorem wk103 {gI : Gh} {wI : World} {x0 : Int} {x1 : Int} {x2 : List Int} {up2 : Value} (rp2 : RV gI.m wI x2 up2) {r : Bool} (h : f103 x0 x1 x2 = some r) : Fn Try.prog 103 #[.int .i64 (x0), .int .i64 (x1), up2] gI wI (fun _ _ v => v = .bool (r)) := by
 unfold f103 at h
 refine fn_of_E Try.func103 rfl (Nat.le_of_ble_eq_true rfl) fun g0 hm hfr => ?_
 have rp2 : RV g0.m wI x2 up2 := hm ▸ rp2
 show E _ 11 none _ _ _ _ _
 refine E_seq (E_region (EL_do .plain rfl (D_box (g := g0) rfl (RV_int.2 rfl) fun g1 w1 p1 hs q1 => ?_)))
 have hfr := hfr.ext hs
 have rp2 := rp2.ext hs
 refine EL_do .plain rfl (D_box (g := g1) rfl (RV_int.2 rfl) fun g2 w2 p2 hs q2 => ?_)
 have hfr := hfr.ext hs
 have rp2 := rp2.ext hs
 have q1 := q1.ext hs
 refine EL_at (.bool false) rfl rfl ?_
 refine EL_nil (thn_n (E_seq (E_region (EL_mw up2 rfl rfl ?_))))
 refine EL_p ((.func (.func 179) #[] #[p1, p2])) (P_makeFunc (capf_0_2 (show ev _ _ = p1 from rfl) (show ev _ _ = p2 from rfl))) rfl ?_
 obtain ⟨y4, o0, h⟩ := bsome h
 refine EL_do .plain rfl (D_call (g := g2) (vs := [up2, (.func (.func 179) #[] #[p1, p2])]) en165 (.cons rfl (.cons rfl .nil)) (wk165 rp2 ⟨179, #[], #[p1, p2], rfl, en179, fun g' w' hch a0 b0 r hu0 hr => by obtain rfl := RV_int.1 hu0; exact Fn.mono (wk179  (q1.ch hch) (q2.ch hch) hr) fun _ _ _ h => RV_bool.2 h⟩ o0) fun g3 w3_ v3 hs hr => ?_)
 have hfr := hfr.ext hs
 subst hr
 refine EL_p (.bool (!y4)) (P_not rfl) rfl ?_
 refine EL_at (.bool (!y4)) rfl rfl ?_
 refine EL_nil (thn_n (E_ret ?_))
 obtain rfl := sinj h
 exact end1 rfl rfl (show _ = .bool (!y4) from rfl) ⟨_, hfr, rfl⟩
def f106 (x0 : TieTieHarness) (x1 : Int) : Option (Str) :=
 Option.bind (α := List UInt8) (
  lp (σ := List UInt8 × Int) (fun z9 (i6, o0) =>
   bif (decide (o0 < ((((x0).TieHarness).Warps).length : Int))) then
    Option.bind (α := List UInt8) (
     (f187 x0 x1 o0).bind fun m8 =>
     (f186 m8).bind fun n8 =>
     (apnd 1 i6 [n8]).bind fun y43 =>
     some (y43)
     ) fun t5 =>
    z9 (t5, (w64 (o0 + (1 : Int))))
   else
    some (i6)
   ) big (([] : List UInt8), (0 : Int))
  ) fun x6 =>
 (sbstr x6).bind fun g8 =>
 some (g8)
theorem en106 : Enters Try.prog 106 := enters_of Try.func106 (by kernel_rfl) rfl
theorem wk106 {gI : Gh} {wI : World} {x0 : TieTieHarness} {x1 : Int} {up0 : Value} (rp0 : RV gI.m wI x0 up0) {r : Str} (h : f106 x0 x1 = some r) : Fn Try.prog 106 #[up0, .int .i64 (x1)] gI wI (fun _ _ v => v = Str.v (r)) := by
 unfold f106 at h
 refine fn_of_E Try.func106 rfl (Nat.le_of_ble_eq_true rfl) fun g0 hm hfr => ?_
 have rp0 : RV g0.m wI x0 up0 := hm ▸ rp0
 show E _ 22 none _ _ _ _ _
 refine E_seq (E_region (EL_do .plain rfl (D_box (g := g0) rfl rp0 fun g1 w1 p1 hs q1 => ?_)))
 have hfr := hfr.ext hs
 refine EL_at (Str.v (⟨[]⟩ : Str)) rfl rfl ?_
 refine EL_nil (thn_n (E_seq (E_region (EL_do .plain rfl (D_allocOc (g := g1) 2005 ((⟨.pointer none, rfl⟩, []) : Fv × List UInt8) Try.zeroValue331 (fun m w => ⟨_, rep_two (show GoT.rep m w (⟨.pointer none, rfl⟩ : Fv) [.pointer none] from rfl) rep_nil, rfl⟩) fun g2 w2 p2 hs b2 cb => ?_)))))
 have hfr := hfr.stp hs
 have q1 := q1.stp hs
 replace b2 : SB 2005 60501 g2 w2 5 331 [] p2 := ⟨_, b2, cb.osf rfl, .inl rfl⟩
 clear cb
 refine EL_nil (thn_n ?_)
 obtain ⟨x6, hx, h⟩ := bsome h
 refine E_join (fun e w => ∃ (g : Gh) , Fr gI wI g w ∧ e 5 = p2 ∧ SB 2005 60501 g w 5 331 (x6) p2) (fun Q' hQ => ?_) (fun yB rC hR => ?_)
 ·replace h := hx
  clear hx
  refine E_seq (E_region (EL_p (fPtr p1 0) (P_fieldAddr at_221_0 rfl (PT.ptr q1)) rfl ?_))
  have bA := PT_field (part_TieTieHarness_0).1 q1
  refine EL_p (fPtr (fPtr p1 0) 1) (P_fieldAddr at_28_1 rfl (PT.ptr bA)) rfl ?_
  have iB := PT_field (part_TieHarness_1).1 bA
  refine EL_do .plain rfl (D_load (g := g2) Try.isAgg26 Try.sizeOf26 rfl iB fun uC lB => ?_)
  refine EL_p (.int .i64 ((((x0).TieHarness).Warps).length : Int)) (P_len Try.underlying26 rfl lB) rfl ?_
  refine EL_mw (.int .i64 (0)) rfl rfl ?_
  refine EL_nil (thn_n (E_block ?_))
  refine E_lp h (fun (s : List UInt8 × Int) e w => ∃ (g : Gh) , Fr gI wI g w ∧ e 1 = .int .i64 (x1) ∧ e 2 = p1 ∧ PT g.m w (x0 : TieTieHarness) p1 ∧ e 5 = p2 ∧ SB 2005 60501 g w 5 331 (s.1) p2 ∧ e 10 = .int .i64 (((((x0).TieHarness).Warps).length : Int)) ∧ e 11 = .int .i64 (s.2)) ⟨g2, hfr, rfl, rfl, q1, rfl, b2, rfl, rfl⟩ (fun X27 z9 iA => ?_)
  rintro ⟨i6, o0⟩ zB vC ⟨r8, hfr, k8, l8, u3, y6, l5, i7, x5⟩ h
  refine E_seq (E_region (EL_p (.bool ((decide (o0 < ((((x0).TieHarness).Warps).length : Int))))) (P_int x5 i7 rfl) rfl ?_))
  refine EL_nil (thn_n (E_seq ?_))
  rcases csome h with ⟨m7, h⟩ | ⟨m7, h⟩
  ·refine E_ct m7 rfl ?_
   refine E_skip (thn_n ?_)
   obtain ⟨t5, hx, h⟩ := bsome h
   refine E_join (fun e w => ∃ (g : Gh) , Fr gI wI g w ∧ e 1 = .int .i64 (x1) ∧ e 2 = p1 ∧ PT g.m w (x0 : TieTieHarness) p1 ∧ e 5 = p2 ∧ SB 2005 60501 g w 5 331 (t5) p2 ∧ e 10 = .int .i64 (((((x0).TieHarness).Warps).length : Int)) ∧ e 11 = .int .i64 (o0)) (fun Q' hQ => ?_) (fun cC aD hR => ?_)
   ·replace h := hx
    clear hx
    refine E_block ?_
    refine E_seq (E_region (EL_mv x5 rfl ?_))
    refine EL_at (.int .i64 (o0)) rfl rfl ?_
    refine EL_nil (thn_n (E_region (EL_do .plain rfl (D_load (g := r8) Try.isAgg221 Try.sizeOf221 l8 u3 fun mB nB => ?_))))
    refine EL_mv k8 rfl ?_
    refine EL_mw (.int .i64 (o0)) rfl rfl ?_
    obtain ⟨m8, rA, h⟩ := bsome h
    refine EL_do .plain rfl (D_call (g := r8) (vs := [mB, .int .i64 (x1), .int .i64 (o0)]) en187 (.cons rfl (.cons rfl (.cons rfl .nil))) (wk187 nB rA) fun oB mC bD hs hr => ?_)
    have hfr := hfr.ext hs
    have u3 := u3.ext hs
    have l5 := l5.ext hs
    subst hr
    obtain ⟨n8, yA, h⟩ := bsome h
    refine EL_do .plain rfl (D_call (g := oB) (vs := [.bool (m8)]) en186 (.cons rfl .nil) (wk186  yA) fun cD qC eD hs hr => ?_)
    have hfr := hfr.ext hs
    have u3 := u3.ext hs
    have l5 := l5.ext hs
    subst hr
    obtain ⟨y43, aB, h⟩ := bsome h
    refine EL_do .plain rfl (D_callC (vs := [p2, .int .u8 (UInt8.toNat (n8))]) en185 (.cons y6 (.cons rfl .nil)) (wk185 (i := 2005) (j := 60501) rfl rfl l5 aB) fun gD iD hq => ?_)
    obtain ⟨hv, tB, ⟨_, _, _, _, hs1, hs2, hs3⟩, b42⟩ := hq
    subst hv
    have hfr := hfr.stp hs1
    have u3 := u3.stp hs1
    have hfr := hfr.stp hs2
    have u3 := u3.stp hs2
    have hfr := hfr.stp hs3
    have u3 := u3.stp hs3
    clear hs1 hs2 hs3
    refine EL_nil (blk_n ?_)
    obtain rfl := sinj h
    exact hQ _ _ ⟨tB, hfr, k8, l8, u3, y6, b42, i7, x5⟩
   ·clear hx
    obtain ⟨vB, hfr, a9, d9, k9, l9, n9, v8, x8⟩ := hR
    refine E_region (EL_in (.int .i64 ((w64 (o0 + (1 : Int))))) x8 rfl rfl rfl ?_)
    refine EL_mw (.int .i64 ((w64 (o0 + (1 : Int))))) rfl rfl ?_
    exact EL_nil (thn_n (iA (t5, (w64 (o0 + (1 : Int)))) _ _ ⟨vB, hfr, a9, d9, k9, l9, n9, v8, rfl⟩ h))
  ·refine E_cf m7 rfl ?_
   refine E_exit ?_
   refine thn_e ?_
   refine thn_e ?_
   refine blk_hit ?_
   obtain rfl := sinj h
   exact hQ _ _ ⟨r8, hfr, y6, l5⟩
 ·clear hx
  obtain ⟨jD, hfr, u9, y9⟩ := hR
  refine E_seq (E_region ?_)
  obtain ⟨g8, dB, h⟩ := bsome h
  obtain ⟨hne46, hye46⟩ := sbstr_h dB
  refine EL_do .plain rfl (D_callC (vs := [p2]) en188 (.cons u9 .nil) (wk188 (i := 2005) (j := 60501) rfl y9 hne46) fun lD nD hq => ?_)
  obtain ⟨hv, oD, hs⟩ := hq
  rw [← hye46] at hv
  subst hv
  have hfr := hfr.stp hs
  refine EL_at (Str.v g8) rfl rfl ?_
  refine EL_nil (thn_n (E_ret ?_))
  obtain rfl := sinj h
  exact end1 rfl rfl (show _ = Str.v g8 from rfl) ⟨_, hfr, rfl⟩
def f112 (x0 : Int) (x1 : Int) (x2 : List Int) : Option (Bool) :=
 (f165 x2 ((fun a0 => f192 a0 x0 x1))).bind fun y4 =>
 some ((!y4))
theorem en112 : Enters Try.prog 112 := enters_of Try.func112 (by kernel_rfl) rfl
theorem wk112 {gI : Gh} {wI : World} {x0 : Int} {x1 : Int} {x2 : List Int} {up2 : Value} (rp2 : RV gI.m wI x2 up2) {r : Bool} (h : f112 x0 x1 x2 = some r) : Fn Try.prog 112 #[.int .i64 (x0), .int .i64 (x1), up2] gI wI (fun _ _ v => v = .bool (r)) := by
 unfold f112 at h
 refine fn_of_E Try.func112 rfl (Nat.le_of_ble_eq_true rfl) fun g0 hm hfr => ?_
 have rp2 : RV g0.m wI x2 up2 := hm ▸ rp2
 show E _ 11 none _ _ _ _ _
 refine E_seq (E_region (EL_do .plain rfl (D_box (g := g0) rfl (RV_int.2 rfl) fun g1 w1 p1 hs q1 => ?_)))
 have hfr := hfr.ext hs
 have rp2 := rp2.ext hs
 refine EL_do .plain rfl (D_box (g := g1) rfl (RV_int.2 rfl) fun g2 w2 p2 hs q2 => ?_)
 have hfr := hfr.ext hs
 have rp2 := rp2.ext hs
 have q1 := q1.ext hs
 refine EL_at (.bool false) rfl rfl ?_
 refine EL_nil (thn_n (E_seq (E_region (EL_mw up2 rfl rfl ?_))))
 refine EL_p ((.func (.func 192) #[] #[p1, p2])) (P_makeFunc (capf_0_2 (show ev _ _ = p1 from rfl) (show ev _ _ = p2 from rfl))) rfl ?_
 obtain ⟨y4, o0, h⟩ := bsome h
 refine EL_do .plain rfl (D_call (g := g2) (vs := [up2, (.func (.func 192) #[] #[p1, p2])]) en165 (.cons rfl (.cons rfl .nil)) (wk165 rp2 ⟨192, #[], #[p1, p2], rfl, en192, fun g' w' hch a0 b0 r hu0 hr => by obtain rfl := RV_int.1 hu0; exact Fn.mono (wk192  (q1.ch hch) (q2.ch hch) hr) fun _ _ _ h => RV_bool.2 h⟩ o0) fun g3 w3_ v3 hs hr => ?_)
 have hfr := hfr.ext hs
 subst hr
 refine EL_p (.bool (!y4)) (P_not rfl) rfl ?_
 refine EL_at (.bool (!y4)) rfl rfl ?_
 refine EL_nil (thn_n (E_ret ?_))
 obtain rfl := sinj h
 exact end1 rfl rfl (show _ = .bool (!y4) from rfl) ⟨_, hfr, rfl⟩
def f131 (x0 : List ChainCard) : Option (It ChainCard) :=
 some ((fun σ cons s => f211 x0 σ cons s))
theorem en131 : Enters Try.prog 131 := enters_of Try.func131 (by kernel_rfl) rfl
theorem wk131 {gI : Gh} {wI : World} {x0 : List ChainCard} {up0 : Value} (rp0 : RV gI.m wI x0 up0) {r : It ChainCard} (h : f131 x0 = some r) : Fn Try.prog 131 #[up0] gI wI (fun m w v => ItV Try.prog (RA1 (α := ChainCard)) (r) v m w) := by
 unfold f131 at h
 refine fn_of_E Try.func131 rfl (Nat.le_of_ble_eq_true rfl) fun g0 hm hfr => ?_
 have rp0 : RV g0.m wI x0 up0 := hm ▸ rp0
 show E _ 4 none _ _ _ _ _
 refine E_seq (E_region (EL_do .plain rfl (D_box (g := g0) rfl rp0 fun g1 w1 p1 hs q1 => ?_)))
 have hfr := hfr.ext hs
 refine EL_at (.nilFunc) rfl rfl ?_
 refine EL_nil (thn_n (E_seq (E_region (EL_p ((.func (.func 211) #[] #[p1])) (P_makeFunc (capf_0_1 (show ev _ _ = p1 from rfl))) rfl ?_))))
 refine EL_at ((.func (.func 211) #[] #[p1])) rfl rfl ?_
 refine EL_nil (thn_n (E_ret ?_))
 obtain rfl := sinj h
 exact end1 rfl rfl (show _ = (.func (.func 211) #[] #[p1]) from rfl) ⟨_, hfr, (show ItV Try.prog (RA1 (α := ChainCard)) (fun σ cons s => f211 x0 σ cons s) ((.func (.func 211) #[] #[p1])) g1.m w1 from ⟨211, #[], #[p1], rfl, en211, fun g' w' hch σ cons s s' h => wk211  (q1.ch hch) h⟩)⟩
def f133 (x0 : Int) (x1 : Int) : Option (Int) :=
 (f212 x0).bind fun y2 =>
 (f212 x1).bind fun y4 =>
 jn (σ := Unit) (fun _ =>
  jn (σ := Unit) (fun _ =>
   jn (σ := Unit) (fun _ =>
    jn (σ := Unit) (fun _ =>
     some ((0 : Int))
     ) fun l8 =>
    bif (decide (x0 > x1)) then
     some ((1 : Int))
    else
     l8 ()
    ) fun m8 =>
   bif (decide (x0 < x1)) then
    some ((-1 : Int))
   else
    m8 ()
   ) fun k18 =>
  bif y4 then
   some ((1 : Int))
  else
   k18 ()
  ) fun n8 =>
 bif y2 then
  jn (σ := Unit) (fun _ =>
   some ((-1 : Int))
   ) fun r8 =>
  bif y4 then
   some ((0 : Int))
  else
   r8 ()
 else
  n8 ()
theorem en133 : Enters Try.prog 133 := enters_of Try.func133 (by kernel_rfl) rfl
theorem wk133 {gI : Gh} {wI : World} {x0 : Int} {x1 : Int}  {r : Int} (h : f133 x0 x1 = some r) : Fn Try.prog 133 #[.int .i64 (x0), .int .i64 (x1)] gI wI (fun _ _ v => v = .int .i64 (r)) := by
 unfold f133 at h
 refine fn_of_E Try.func133 rfl (Nat.le_of_ble_eq_true rfl) fun g0 hm hfr => ?_
 show E _ 20 none _ _ _ _ _
 refine E_seq (E_region (EL_at (.int .i64 (0)) rfl rfl ?_))
 refine EL_nil (thn_n (E_seq (E_region (EL_mw (.int .i64 (x0)) rfl rfl ?_))))
 obtain ⟨y2, hy2, h⟩ := bsome h
 refine EL_do .plain rfl (D_call (g := g0) (vs := [.int .i64 (x0)]) en212 (.cons rfl .nil) (wk212  hy2) fun g1 w1_ v1 hs hr => ?_)
 have hfr := hfr.ext hs
 subst hr
 refine EL_at (.bool (y2)) rfl rfl ?_
 refine EL_nil (thn_n (E_seq (E_region (EL_mw (.int .i64 (x1)) rfl rfl ?_))))
 obtain ⟨y4, l9, h⟩ := bsome h
 refine EL_do .plain rfl (D_call (g := g1) (vs := [.int .i64 (x1)]) en212 (.cons rfl .nil) (wk212  l9) fun g3 w3_ v3 hs hr => ?_)
 have hfr := hfr.ext hs
 subst hr
 refine EL_at (.bool (y4)) rfl rfl ?_
 refine EL_nil (thn_n (E_joinC h (fun (s : Unit) e w => ∃ (g : Gh) , Fr gI wI g w ∧ e 0 = .int .i64 (x0) ∧ e 1 = .int .i64 (x1) ∧ e 6 = .bool (y4)) (fun X10 n8 v8 h => ?_) ?_))
 ·refine E_seq (E_region (EL_mw (.bool (y2)) rfl rfl ?_))
  refine EL_nil (thn_n ?_)
  rcases csome h with ⟨o0, h⟩ | ⟨o0, h⟩
  ·refine E_ct o0 rfl ?_
   refine E_joinC h (fun (s : Unit) e w => ∃ (g : Gh) , Fr gI wI g w) (fun X13 r8 x8 h => ?_) ?_
   ·refine E_seq (E_region (EL_mw (.bool (y4)) rfl rfl ?_))
    refine EL_nil (thn_n ?_)
    rcases csome h with ⟨u3, h⟩ | ⟨u3, h⟩
    ·refine E_ct u3 rfl ?_
     refine E_seq (E_region (EL_at (.int .i64 (0)) rfl rfl ?_))
     refine EL_nil (thn_n (E_ret (thn_r ?_)))
     refine thn_r ?_
     obtain rfl := sinj h
     exact end1 rfl rfl (show _ = .int .i64 (0) from rfl) ⟨_, hfr, rfl⟩
    ·refine E_cf u3 rfl ?_
     exact E_skip (thn_n (x8 () _ _ ⟨g3, hfr⟩ h))
   ·rintro _ z9 w15 ⟨aB, hfr⟩ h
    refine E_seq (E_region (EL_at (.int .i64 (-1)) rfl rfl ?_))
    refine EL_nil (thn_n (E_ret (thn_r ?_)))
    obtain rfl := sinj h
    exact end1 rfl rfl (show _ = .int .i64 (-1) from rfl) ⟨_, hfr, rfl⟩
  ·refine E_cf o0 rfl ?_
   exact E_skip (thn_n (v8 () _ _ ⟨g3, hfr, rfl, rfl, rfl⟩ h))
 ·rintro _ bA dB ⟨n9, hfr, y6, i7, m7⟩ h
  refine E_joinC h (fun (s : Unit) e w => ∃ (g : Gh) , Fr gI wI g w ∧ e 0 = .int .i64 (x0) ∧ e 1 = .int .i64 (x1)) (fun X18 k18 a9 h => ?_) ?_
  ·refine E_seq (E_region (EL_mv m7 rfl ?_))
   refine EL_nil (thn_n ?_)
   rcases csome h with ⟨l5, h⟩ | ⟨l5, h⟩
   ·refine E_ct l5 rfl ?_
    refine E_seq (E_region (EL_at (.int .i64 (1)) rfl rfl ?_))
    refine EL_nil (thn_n (E_ret (thn_r ?_)))
    obtain rfl := sinj h
    exact end1 rfl rfl (show _ = .int .i64 (1) from rfl) ⟨_, hfr, rfl⟩
   ·refine E_cf l5 rfl ?_
    exact E_skip (thn_n (a9 () _ _ ⟨n9, hfr, y6, i7⟩ h))
  ·rintro _ iA iB ⟨u9, hfr, i6, x6⟩ h
   refine E_joinC h (fun (s : Unit) e w => ∃ (g : Gh) , Fr gI wI g w ∧ e 0 = .int .i64 (x0) ∧ e 1 = .int .i64 (x1)) (fun X22 m8 d9 h => ?_) ?_
   ·refine E_seq (E_region (EL_mv i6 rfl ?_))
    refine EL_mv x6 rfl ?_
    refine EL_in (.bool ((decide (x0 < x1)))) rfl rfl rfl rfl ?_
    refine EL_nil (thn_n ?_)
    rcases csome h with ⟨t5, h⟩ | ⟨t5, h⟩
    ·refine E_ct t5 rfl ?_
     refine E_seq (E_region (EL_at (.int .i64 (-1)) rfl rfl ?_))
     refine EL_nil (thn_n (E_ret (thn_r ?_)))
     obtain rfl := sinj h
     exact end1 rfl rfl (show _ = .int .i64 (-1) from rfl) ⟨_, hfr, rfl⟩
    ·refine E_cf t5 rfl ?_
     exact E_skip (thn_n (d9 () _ _ ⟨u9, hfr, i6, x6⟩ h))
   ·rintro _ rA lB ⟨y9, hfr, g8, k8⟩ h
    refine E_joinC h (fun (s : Unit) e w => ∃ (g : Gh) , Fr gI wI g w) (fun X26 l8 k9 h => ?_) ?_
    ·refine E_seq (E_region (EL_mv g8 rfl ?_))
     refine EL_mv k8 rfl ?_
     refine EL_in (.bool ((decide (x0 > x1)))) rfl rfl rfl rfl ?_
     refine EL_nil (thn_n ?_)
     rcases csome h with ⟨x5, h⟩ | ⟨x5, h⟩
     ·refine E_ct x5 rfl ?_
      refine E_seq (E_region (EL_at (.int .i64 (1)) rfl rfl ?_))
      refine EL_nil (thn_n (E_ret (thn_r ?_)))
      obtain rfl := sinj h
      exact end1 rfl rfl (show _ = .int .i64 (1) from rfl) ⟨_, hfr, rfl⟩
     ·refine E_cf x5 rfl ?_
      exact E_skip (thn_n (k9 () _ _ ⟨y9, hfr⟩ h))
    ·rintro _ yA mB ⟨nB, hfr⟩ h
     refine E_seq (E_region (EL_at (.int .i64 (0)) rfl rfl ?_))
     refine EL_nil (thn_n (E_ret ?_))
     obtain rfl := sinj h
     exact end1 rfl rfl (show _ = .int .i64 (0) from rfl) ⟨_, hfr, rfl⟩
def f184 (x0 : Int) (x1 : Int) (x2 : List Int) : Option (Bool) :=
 (f165 x2 ((fun a0 => f241 a0 x0 x1))).bind fun y4 =>
 some ((!y4))
theorem en184 : Enters Try.prog 184 := enters_of Try.func184 (by kernel_rfl) rfl
theorem wk184 {gI : Gh} {wI : World} {x0 : Int} {x1 : Int} {x2 : List Int} {up2 : Value} (rp2 : RV gI.m wI x2 up2) {r : Bool} (h : f184 x0 x1 x2 = some r) : Fn Try.prog 184 #[.int .i64 (x0), .int .i64 (x1), up2] gI wI (fun _ _ v => v = .bool (r)) := by
 unfold f184 at h
 refine fn_of_E Try.func184 rfl (Nat.le_of_ble_eq_true rfl) fun g0 hm hfr => ?_
 have rp2 : RV g0.m wI x2 up2 := hm ▸ rp2
 show E _ 11 none _ _ _ _ _
 refine E_seq (E_region (EL_do .plain rfl (D_box (g := g0) rfl (RV_int.2 rfl) fun g1 w1 p1 hs q1 => ?_)))
 have hfr := hfr.ext hs
 have rp2 := rp2.ext hs
 refine EL_do .plain rfl (D_box (g := g1) rfl (RV_int.2 rfl) fun g2 w2 p2 hs q2 => ?_)
 have hfr := hfr.ext hs
 have rp2 := rp2.ext hs
 have q1 := q1.ext hs
 refine EL_at (.bool false) rfl rfl ?_
 refine EL_nil (thn_n (E_seq (E_region (EL_mw up2 rfl rfl ?_))))
 refine EL_p ((.func (.func 241) #[] #[p1, p2])) (P_makeFunc (capf_0_2 (show ev _ _ = p1 from rfl) (show ev _ _ = p2 from rfl))) rfl ?_
 obtain ⟨y4, o0, h⟩ := bsome h
 refine EL_do .plain rfl (D_call (g := g2) (vs := [up2, (.func (.func 241) #[] #[p1, p2])]) en165 (.cons rfl (.cons rfl .nil)) (wk165 rp2 ⟨241, #[], #[p1, p2], rfl, en241, fun g' w' hch a0 b0 r hu0 hr => by obtain rfl := RV_int.1 hu0; exact Fn.mono (wk241  (q1.ch hch) (q2.ch hch) hr) fun _ _ _ h => RV_bool.2 h⟩ o0) fun g3 w3_ v3 hs hr => ?_)
 have hfr := hfr.ext hs
 subst hr
 refine EL_p (.bool (!y4)) (P_not rfl) rfl ?_
 refine EL_at (.bool (!y4)) rfl rfl ?_
 refine EL_nil (thn_n (E_ret ?_))
 obtain rfl := sinj h
 exact end1 rfl rfl (show _ = .bool (!y4) from rfl) ⟨_, hfr, rfl⟩
def f209 (x0 : It ChainCard) : Option ((List ChainCard)) :=
 (f264 x0).bind fun y2 =>
 some (y2)
theorem en209 : Enters Try.prog 209 := enters_of Try.func209 (by kernel_rfl) rfl
def f232 (x0 : It Int) : Option ((List Int)) :=
 (f272 x0).bind fun y2 =>
 some (y2)
theorem en232 : Enters Try.prog 232 := enters_of Try.func232 (by kernel_rfl) rfl
def f248 (x0 : Int) (x1 : Int) : Option (It Int) :=
 some ((fun σ cons s => f276 x1 x0 σ cons s))
theorem en248 : Enters Try.prog 248 := enters_of Try.func248 (by kernel_rfl) rfl
theorem wk248 {gI : Gh} {wI : World} {x0 : Int} {x1 : Int}  {r : It Int} (h : f248 x0 x1 = some r) : Fn Try.prog 248 #[.int .i64 (x0), .int .i64 (x1)] gI wI (fun m w v => ItV Try.prog (RA1 (α := Int)) (r) v m w) := by
 unfold f248 at h
 refine fn_of_E Try.func248 rfl (Nat.le_of_ble_eq_true rfl) fun g0 hm hfr => ?_
 show E _ 6 none _ _ _ _ _
 refine E_seq (E_region (EL_do .plain rfl (D_box (g := g0) rfl (RV_int.2 rfl) fun g1 w1 p1 hs q1 => ?_)))
 have hfr := hfr.ext hs
 refine EL_do .plain rfl (D_box (g := g1) rfl (RV_int.2 rfl) fun g2 w2 p2 hs q2 => ?_)
 have hfr := hfr.ext hs
 have q1 := q1.ext hs
 refine EL_at (.nilFunc) rfl rfl ?_
 refine EL_nil (thn_n (E_seq (E_region (EL_p ((.func (.func 276) #[] #[p2, p1])) (P_makeFunc (capf_0_2 (show ev _ _ = p2 from rfl) (show ev _ _ = p1 from rfl))) rfl ?_))))
 refine EL_at ((.func (.func 276) #[] #[p2, p1])) rfl rfl ?_
 refine EL_nil (thn_n (E_ret ?_))
 obtain rfl := sinj h
 exact end1 rfl rfl (show _ = (.func (.func 276) #[] #[p2, p1]) from rfl) ⟨_, hfr, (show ItV Try.prog (RA1 (α := Int)) (fun σ cons s => f276 x1 x0 σ cons s) ((.func (.func 276) #[] #[p2, p1])) g2.m w2 from ⟨276, #[], #[p2, p1], rfl, en276, fun g' w' hch σ cons s s' h => wk276  (q2.ch hch) (q1.ch hch) h⟩)⟩
def f250 (x0 : List ChainCard) (x1 : ChainCard → Option Bool) : Option (Bool) :=
 (f277 x0 x1).bind fun y2 =>
 some ((decide (y2 ≥ (0 : Int))))
theorem en250 : Enters Try.prog 250 := enters_of Try.func250 (by kernel_rfl) rfl
theorem wk250 {gI : Gh} {wI : World} {x0 : List ChainCard} {x1 : ChainCard → Option Bool} {up0 : Value} (rp0 : RV gI.m wI x0 up0) {up1 : Value} (rp1 : FnV1 Try.prog x1 up1 gI wI) {r : Bool} (h : f250 x0 x1 = some r) : Fn Try.prog 250 #[up0, up1] gI wI (fun _ _ v => v = .bool (r)) := by
 unfold f250 at h
 refine fn_of_E Try.func250 rfl (Nat.le_of_ble_eq_true rfl) fun g0 hm hfr => ?_
 have rp0 : RV g0.m wI x0 up0 := hm ▸ rp0
 obtain ⟨ff1, fa1, fc1, rfl, fen1, fcl1⟩ := rp1
 show E _ 9 none _ _ _ _ _
 refine E_seq (E_region (EL_at (.bool false) rfl rfl ?_))
 refine EL_nil (thn_n (E_seq (E_region (EL_mw up0 rfl rfl ?_))))
 refine EL_mw ((.func (.func ff1) fa1 fc1)) rfl rfl ?_
 obtain ⟨y2, hy2, h⟩ := bsome h
 refine EL_do .plain rfl (D_call (g := g0) (vs := [up0, (.func (.func ff1) fa1 fc1)]) en277 (.cons rfl (.cons rfl .nil)) (wk277 rp0 (FnV1.ch ⟨_, _, _, rfl, fen1, fcl1⟩ hfr.ch) hy2) fun g1 w1_ v1 hs hr => ?_)
 have hfr := hfr.ext hs
 subst hr
 refine EL_in (.bool ((decide (y2 ≥ (0 : Int))))) rfl rfl rfl rfl ?_
 refine EL_at (.bool ((decide (y2 ≥ (0 : Int))))) rfl rfl ?_
 refine EL_nil (thn_n (E_ret ?_))
 obtain rfl := sinj h
 exact end1 rfl rfl (show _ = .bool ((decide (y2 ≥ (0 : Int)))) from rfl) ⟨_, hfr, rfl⟩
def f251 (x0 : U64) : Option (U64) :=
 (shr64 ((x0).n) ((1 : Int))).bind fun y1 =>
 (shlU (bitU .and ((x0).n) ((6148914691236517205 : Int))) ((1 : Int))).bind fun y2 =>
 (shr64 (bitU .or (bitU .and y1 ((6148914691236517205 : Int))) y2) ((2 : Int))).bind fun y3 =>
 (shlU (bitU .and (bitU .or (bitU .and y1 ((6148914691236517205 : Int))) y2) ((3689348814741910323 : Int))) ((2 : Int))).bind fun y4 =>
 (shr64 (bitU .or (bitU .and y3 ((3689348814741910323 : Int))) y4) ((4 : Int))).bind fun y5 =>
 (shlU (bitU .and (bitU .or (bitU .and y3 ((3689348814741910323 : Int))) y4) ((1085102592571150095 : Int))) ((4 : Int))).bind fun y6 =>
 (f278 ((⟨bitU .or (bitU .and y5 ((1085102592571150095 : Int))) y6⟩ : U64))).bind fun y8 =>
 some (y8)
theorem en251 : Enters Try.prog 251 := enters_of Try.func251 (by kernel_rfl) rfl
theorem wk251 {gI : Gh} {wI : World} {x0 : U64}  {r : U64} (h : f251 x0 = some r) : Fn Try.prog 251 #[.int .u64 ((x0).n)] gI wI (fun _ _ v => v = .int .u64 ((r).n)) := by
 unfold f251 at h
 refine fn_of_E Try.func251 rfl (Nat.le_of_ble_eq_true rfl) fun g0 hm hfr => ?_
 show E _ 26 none _ _ _ _ _
 refine E_seq (E_region (EL_at (.int .u64 (0)) rfl rfl ?_))
 refine EL_nil (thn_n (E_seq (E_region (EL_mw (.int .u64 ((x0).n)) rfl rfl ?_))))
 obtain ⟨y1, hy1, h⟩ := bsome h
 refine EL_p (.int .u64 (y1)) (P_shrU rfl rfl hy1) rfl ?_
 refine EL_p (.int .u64 (bitU .and y1 ((6148914691236517205 : Int)))) (P_bitU (by simp) rfl rfl) rfl ?_
 refine EL_mw (.int .u64 ((x0).n)) rfl rfl ?_
 refine EL_p (.int .u64 (bitU .and ((x0).n) ((6148914691236517205 : Int)))) (P_bitU (by simp) rfl rfl) rfl ?_
 obtain ⟨y2, hy2, h⟩ := bsome h
 refine EL_p (.int .u64 (y2)) (P_shlU rfl rfl hy2) rfl ?_
 refine EL_p (.int .u64 (bitU .or (bitU .and y1 ((6148914691236517205 : Int))) y2)) (P_bitU (by simp) rfl rfl) rfl ?_
 refine EL_at (.int .u64 (bitU .or (bitU .and y1 ((6148914691236517205 : Int))) y2)) rfl rfl ?_
 refine EL_nil (thn_n (E_seq (E_region (EL_mw (.int .u64 (bitU .or (bitU .and y1 ((6148914691236517205 : Int))) y2)) rfl rfl ?_))))
 obtain ⟨y3, hy3, h⟩ := bsome h
 refine EL_p (.int .u64 (y3)) (P_shrU rfl rfl hy3) rfl ?_
 refine EL_p (.int .u64 (bitU .and y3 ((3689348814741910323 : Int)))) (P_bitU (by simp) rfl rfl) rfl ?_
 refine EL_mw (.int .u64 (bitU .or (bitU .and y1 ((6148914691236517205 : Int))) y2)) rfl rfl ?_
 refine EL_p (.int .u64 (bitU .and (bitU .or (bitU .and y1 ((6148914691236517205 : Int))) y2) ((3689348814741910323 : Int)))) (P_bitU (by simp) rfl rfl) rfl ?_
 obtain ⟨y4, o0, h⟩ := bsome h
 refine EL_p (.int .u64 (y4)) (P_shlU rfl rfl o0) rfl ?_
 refine EL_p (.int .u64 (bitU .or (bitU .and y3 ((3689348814741910323 : Int))) y4)) (P_bitU (by simp) rfl rfl) rfl ?_
 refine EL_at (.int .u64 (bitU .or (bitU .and y3 ((3689348814741910323 : Int))) y4)) rfl rfl ?_
 refine EL_nil (thn_n (E_seq (E_region (EL_mw (.int .u64 (bitU .or (bitU .and y3 ((3689348814741910323 : Int))) y4)) rfl rfl ?_))))
 obtain ⟨y5, hy5, h⟩ := bsome h
 refine EL_p (.int .u64 (y5)) (P_shrU rfl rfl hy5) rfl ?_
 refine EL_p (.int .u64 (bitU .and y5 ((1085102592571150095 : Int)))) (P_bitU (by simp) rfl rfl) rfl ?_
 refine EL_mw (.int .u64 (bitU .or (bitU .and y3 ((3689348814741910323 : Int))) y4)) rfl rfl ?_
 refine EL_p (.int .u64 (bitU .and (bitU .or (bitU .and y3 ((3689348814741910323 : Int))) y4) ((1085102592571150095 : Int)))) (P_bitU (by simp) rfl rfl) rfl ?_
 obtain ⟨y6, u3, h⟩ := bsome h
 refine EL_p (.int .u64 (y6)) (P_shlU rfl rfl u3) rfl ?_
 refine EL_p (.int .u64 (bitU .or (bitU .and y5 ((1085102592571150095 : Int))) y6)) (P_bitU (by simp) rfl rfl) rfl ?_
 refine EL_at (.int .u64 (bitU .or (bitU .and y5 ((1085102592571150095 : Int))) y6)) rfl rfl ?_
 refine EL_nil (thn_n (E_seq (E_region (EL_mw (.int .u64 (bitU .or (bitU .and y5 ((1085102592571150095 : Int))) y6)) rfl rfl ?_))))
 obtain ⟨y8, l5, h⟩ := bsome h
 refine EL_do .plain rfl (D_call (g := g0) (vs := [.int .u64 (bitU .or (bitU .and y5 ((1085102592571150095 : Int))) y6)]) en278 (.cons rfl .nil) (wk278  l5) fun g7 w7_ v7 hs hr => ?_)
 have hfr := hfr.ext hs
 subst hr
 refine EL_at (.int .u64 ((y8).n)) rfl rfl ?_
 refine EL_nil (thn_n (E_ret ?_))
 obtain rfl := sinj h
 exact end1 rfl rfl (show _ = .int .u64 ((y8).n) from rfl) ⟨_, hfr, rfl⟩
def f265 : Nat → (List ChainCard) → (Int) → (Int) → (Int) → (ChainCard → ChainCard → Option Int) → Option ((List ChainCard))
 | 0, _, _, _, _, _ => none
 | n + 1, x0, x1, x2, x3, x4 =>
  lp (σ := (List ChainCard) × Int × Int × Int × Bool × Bool) (fun k1 (i6, o0, u3, t5, l5, x5) =>
   jn (σ := (List ChainCard)) (fun x6 =>
    jn (σ := Unit) (fun _ =>
     Option.bind (α := Int) (
      bif (!l5) then
       none
      else
       some (t5)
      ) fun m8 =>
     none
     ) fun rC =>
    bif (t5 == (0 : Int)) then
     none
    else
     rC ()
    ) fun k6 =>
   bif (decide ((w64 (u3 - o0)) ≤ (12 : Int))) then
    (f289 i6 o0 u3 x4).bind fun y9 =>
    some (y9)
   else
    k6 (i6)
   ) big (x0, x1, x2, x3, true, true)
theorem en265 : Enters Try.prog 265 := enters_of Try.func265 (by kernel_rfl) rfl
def f56 (x0 : ChainBelt) (x1 : List UInt8) : Option (ChainBelt) :=
 (f59 x0).bind fun y5 =>
 Option.bind (α := ChainBelt) (
  lp (σ := ChainBelt × Int) (fun lB (o0, u3) =>
   jn (σ := Unit) (fun _ =>
    Option.bind (α := ChainBelt) (
     (f57 x1 u3).bind fun mB =>
     (rem64 mB (w64 (u3 + (1 : Int)))).bind fun y232 =>
     (idx ((o0).Cards) u3).bind fun y246 =>
     (idx ((o0).Cards) y232).bind fun x6 =>
     (idx ((({ o0 with Cards := (List.set ((o0).Cards) (Int.toNat u3) x6) } : ChainBelt)).Cards) y232).bind fun xD =>
     some (({ (({ o0 with Cards := (List.set ((o0).Cards) (Int.toNat u3) x6) } : ChainBelt)) with Cards := (List.set ((({ o0 with Cards := (List.set ((o0).Cards) (Int.toNat u3) x6) } : ChainBelt)).Cards) (Int.toNat y232) y246) } : ChainBelt))
     ) fun l8 =>
    lB (l8, (w64 (u3 - (1 : Int))))
    ) fun nB =>
   bif (decide (u3 > (0 : Int))) then
    nB ()
   else
    some (o0)
   ) big (y5, (w64 ((((y5).Cards).length : Int) - (1 : Int))))
  ) fun n8 =>
 some (n8)
theorem en56 : Enters Try.prog 56 := enters_of Try.func56 (by kernel_rfl) rfl
def f102 (x0 : Design) : Option (Int) :=
 jn (σ := Unit) (fun _ =>
  some ((0 : Int))
  ) fun x6 =>
 (f103 ((1 : Int)) ((24 : Int)) (([(x0).Hooks] : List Int))).bind fun y56 =>
 bif (!y56) then
  some ((2 : Int))
 else
  bif (decide ((((x0).Rows).length : Int) > (60 : Int))) then
   some ((5 : Int))
  else
   bif ((((x0).Rows).length : Int) == (0 : Int)) then
    some ((7 : Int))
   else
    (shl64 (1 : Int) (x0).Hooks).bind fun u3 =>
    (f103 ((0 : Int)) ((w64 (u3 - (1 : Int)))) ((x0).Rows)).bind fun y71 =>
    bif (!y71) then
     some ((2 : Int))
    else
     x6 ()
theorem en102 : Enters Try.prog 102 := enters_of Try.func102 (by kernel_rfl) rfl
theorem wk102 {gI : Gh} {wI : World} {x0 : Design} {up0 : Value} (rp0 : RV gI.m wI x0 up0) {r : Int} (h : f102 x0 = some r) : Fn Try.prog 102 #[up0] gI wI (fun _ _ v => v = .int .i64 (r)) := by
 unfold f102 at h
 refine fn_of_E Try.func102 rfl (Nat.le_of_ble_eq_true rfl) fun g0 hm hfr => ?_
 have rp0 : RV g0.m wI x0 up0 := hm ▸ rp0
 show E _ 28 none _ _ _ _ _
 refine E_seq (E_region (EL_do .plain rfl (D_box (g := g0) rfl rp0 fun g1 w1 p1 hs q1 => ?_)))
 have hfr := hfr.ext hs
 refine EL_at (.int .i64 (0)) rfl rfl ?_
 refine EL_nil (thn_n (E_joinC h (fun (s : Unit) e w => ∃ (g : Gh) , Fr gI wI g w) (fun X51 x6 i7 h => ?_) ?_))
 ·refine E_block ?_
  refine E_seq (E_region (EL_p (fPtr p1 0) (P_fieldAddr at_30_0 rfl (PT.ptr q1)) rfl ?_))
  have n8 := PT_field (part_Design_0).1 q1
  refine EL_do .plain rfl (D_load (g := g1) Try.isAgg3 Try.sizeOf3 rfl n8 fun iB r8 => ?_)
  obtain rfl := RV_int.1 r8
  refine EL_do .plain rfl (D_buildSlice (g := g1) 3006 (xs := ([(x0).Hooks] : List Int)) (vs := [.int .i64 ((x0).Hooks)]) Try.underlying26 Try.sizeOf3 Try.zeroValue3 rfl rfl (.cons rfl .nil) (RVs.cons (RV_int.2 rfl) RVs.nil) rfl rfl fun v8 lB x8 hs o54 a9 hxt hfl => ?_)
  have hfr := hfr.stp hs
  have q1 := q1.stp hs
  obtain ⟨y56, m7, h⟩ := bsome h
  refine EL_do .plain rfl (D_call (g := v8) (vs := [.int .i64 (1), .int .i64 (24), x8]) en103 (.cons rfl (.cons rfl (.cons rfl .nil))) (wk103 a9 m7) fun i6 yA mB hs hr => ?_)
  have hfr := hfr.ext hs
  have q1 := q1.ext hs
  subst hr
  refine EL_p (.bool (!y56)) (P_not rfl) rfl ?_
  refine EL_at (.bool (!y56)) rfl rfl ?_
  refine EL_nil (thn_n ?_)
  rcases csome h with ⟨l5, h⟩ | ⟨l5, h⟩
  ·refine E_ct l5 rfl ?_
   refine E_seq (E_region (EL_at (.int .i64 (2)) rfl rfl ?_))
   refine EL_nil (thn_n (E_ret (blk_r ?_)))
   refine thn_r ?_
   obtain rfl := sinj h
   exact end1 rfl rfl (show _ = .int .i64 (2) from rfl) ⟨_, hfr, rfl⟩
  ·refine E_cf l5 rfl ?_
   refine E_seq (E_region (EL_p (fPtr p1 1) (P_fieldAddr at_30_1 rfl (PT.ptr q1)) rfl ?_))
   have d9 := PT_field (part_Design_1).1 q1
   refine EL_do .plain rfl (D_load (g := i6) Try.isAgg26 Try.sizeOf26 rfl d9 fun nB k9 => ?_)
   refine EL_p (.int .i64 (((x0).Rows).length : Int)) (P_len Try.underlying26 rfl k9) rfl ?_
   refine EL_p (.bool ((decide ((((x0).Rows).length : Int) > (60 : Int))))) (P_int rfl rfl rfl) rfl ?_
   refine EL_p (.bool ((decide ((((x0).Rows).length : Int) > (60 : Int))))) (P_assign rfl) rfl ?_
   refine EL_nil (thn_n ?_)
   rcases csome h with ⟨t5, h⟩ | ⟨t5, h⟩
   ·refine E_ct t5 rfl ?_
    refine E_seq (E_region (EL_at (.int .i64 (5)) rfl rfl ?_))
    refine EL_nil (thn_n (E_ret (blk_r ?_)))
    refine thn_r ?_
    obtain rfl := sinj h
    exact end1 rfl rfl (show _ = .int .i64 (5) from rfl) ⟨_, hfr, rfl⟩
   ·refine E_cf t5 rfl ?_
    refine E_seq (E_region (EL_p (fPtr p1 1) (P_fieldAddr at_30_1 rfl (PT.ptr q1)) rfl ?_))
    have l9 := PT_field (part_Design_1).1 q1
    refine EL_do .plain rfl (D_load (g := i6) Try.isAgg26 Try.sizeOf26 rfl l9 fun v62 n9 => ?_)
    refine EL_p (.int .i64 (((x0).Rows).length : Int)) (P_len Try.underlying26 rfl n9) rfl ?_
    refine EL_in (.bool (((((x0).Rows).length : Int) == (0 : Int)))) rfl rfl rfl rfl ?_
    refine EL_at (.bool (((((x0).Rows).length : Int) == (0 : Int)))) rfl rfl ?_
    refine EL_nil (thn_n ?_)
    rcases csome h with ⟨x5, h⟩ | ⟨x5, h⟩
    ·refine E_ct x5 rfl ?_
     refine E_seq (E_region (EL_at (.int .i64 (7)) rfl rfl ?_))
     refine EL_nil (thn_n (E_ret (blk_r ?_)))
     refine thn_r ?_
     obtain rfl := sinj h
     exact end1 rfl rfl (show _ = .int .i64 (7) from rfl) ⟨_, hfr, rfl⟩
    ·refine E_cf x5 rfl ?_
     refine E_seq ?_
     have u9 := PT_field (part_Design_0).1 q1
     refine L_load (x := .tmp 20) Try.isAgg3 Try.sizeOf3 u9 fun oB y9 g8 => ?_
     obtain rfl := RV_int.1 y9
     obtain ⟨u3, k8, h⟩ := bsome h
     have z9 := PT_field (part_Design_1).1 q1
     refine L_load (x := .tmp 24) Try.isAgg26 Try.sizeOf26 z9 fun y6 bA l8 => ?_
     obtain ⟨y71, m8, h⟩ := bsome h
     refine E_drawL (g := i6) (n := 9) [(6, (fun v g w => v = .bool (y71)))] [0, 1, 2, 3, 4, 5, 6, 7, 8] rfl mixed (by kernel_rfl) (⟨fun _ => up_eq _, trivial⟩) ?_
     refine L_p (fPtr p1 0) rfl rfl (P_fieldAddr at_30_0 rfl (PT.ptr q1)) ?_
     refine L_ld (c := .int .i64 ((x0).Hooks)) rfl rfl .plain (fun _ _ h => h.ch) g8 rfl ?_
     refine L_p (.int .i64 (u3)) rfl rfl (P_int rfl rfl (congrArg (Option.map (Value.int .i64)) k8)) ?_
     refine L_p (.int .i64 ((w64 (u3 - (1 : Int))))) rfl rfl (P_int rfl rfl rfl) ?_
     refine L_p (fPtr p1 1) rfl rfl (P_fieldAddr at_30_1 rfl (PT.ptr q1)) ?_
     refine L_ld (c := y6) rfl rfl .plain (fun _ _ h => h.ch) l8 rfl ?_
     refine L_do (φ := fun v g w => v = .bool (y71)) rfl rfl .plain (fun g w hd => D_call (g := g) (vs := [.int .i64 (0), .int .i64 ((w64 (u3 - (1 : Int)))), y6]) en103 (.cons rfl (.cons rfl (.cons rfl .nil))) (wk103 (bA.ext hd.1) m8) fun g' w' v hs hr => ⟨g', hs, hr⟩) (fun tB hv => ?_)
     obtain ⟨_, _, _, rfl⟩ := hv
     refine L_p (.bool (!y71)) rfl rfl (P_not rfl) ?_
     refine L_p (.bool (!y71)) rfl rfl (P_assign rfl) ?_
     refine L_nl fun iA vB hs => ?_
     have hfr := hfr.ext hs
     clear hs
     refine EL_nil (thn_n ?_)
     rcases csome h with ⟨o0, h⟩ | ⟨o0, h⟩
     ·refine E_ct o0 rfl ?_
      refine E_seq (E_region (EL_at (.int .i64 (2)) rfl rfl ?_))
      refine EL_nil (thn_n (E_ret (blk_r ?_)))
      refine thn_r ?_
      obtain rfl := sinj h
      exact end1 rfl rfl (show _ = .int .i64 (2) from rfl) ⟨_, hfr, rfl⟩
     ·refine E_cf o0 rfl ?_
      exact E_skip (blk_n (thn_n (i7 () _ _ ⟨iA, hfr⟩ h)))
 ·rintro _ rA aB ⟨dB, hfr⟩ h
  refine E_seq (E_region (EL_at (.int .i64 (0)) rfl rfl ?_))
  refine EL_nil (thn_n (E_ret ?_))
  obtain rfl := sinj h
  exact end1 rfl rfl (show _ = .int .i64 (0) from rfl) ⟨_, hfr, rfl⟩
def f105 (x0 : TieHarness) : Option (Int) :=
 jn (σ := Unit) (fun _ =>
  some ((0 : Int))
  ) fun y6 =>
 (f184 ((1 : Int)) ((24 : Int)) (([(x0).Hooks] : List Int))).bind fun i6 =>
 bif (!i6) then
  some ((2 : Int))
 else
  bif (decide ((((x0).Warps).length : Int) > (96 : Int))) then
   some ((5 : Int))
  else
   bif ((((x0).Warps).length : Int) == (0 : Int)) then
    some ((7 : Int))
   else
    (f184 ((0 : Int)) ((w64 ((x0).Hooks - (1 : Int)))) ((x0).Warps)).bind fun x6 =>
    bif (!x6) then
     some ((2 : Int))
    else
     y6 ()
theorem en105 : Enters Try.prog 105 := enters_of Try.func105 (by kernel_rfl) rfl
theorem wk105 {gI : Gh} {wI : World} {x0 : TieHarness} {up0 : Value} (rp0 : RV gI.m wI x0 up0) {r : Int} (h : f105 x0 = some r) : Fn Try.prog 105 #[up0] gI wI (fun _ _ v => v = .int .i64 (r)) := by
 unfold f105 at h
 refine fn_of_E Try.func105 rfl (Nat.le_of_ble_eq_true rfl) fun g0 hm hfr => ?_
 have rp0 : RV g0.m wI x0 up0 := hm ▸ rp0
 show E _ 27 none _ _ _ _ _
 refine E_seq (E_region (EL_do .plain rfl (D_box (g := g0) rfl rp0 fun g1 w1 p1 hs q1 => ?_)))
 have hfr := hfr.ext hs
 refine EL_at (.int .i64 (0)) rfl rfl ?_
 refine EL_nil (thn_n (E_joinC h (fun (s : Unit) e w => ∃ (g : Gh) , Fr gI wI g w) (fun X21 y6 i7 h => ?_) ?_))
 ·refine E_block ?_
  refine E_seq (E_region (EL_p (fPtr p1 0) (P_fieldAddr at_28_0 rfl (PT.ptr q1)) rfl ?_))
  have k8 := PT_field (part_TieHarness_0).1 q1
  refine EL_do .plain rfl (D_load (g := g1) Try.isAgg3 Try.sizeOf3 rfl k8 fun yA l8 => ?_)
  obtain rfl := RV_int.1 l8
  refine EL_do .plain rfl (D_buildSlice (g := g1) 3006 (xs := ([(x0).Hooks] : List Int)) (vs := [.int .i64 ((x0).Hooks)]) Try.underlying26 Try.sizeOf3 Try.zeroValue3 rfl rfl (.cons rfl .nil) (RVs.cons (RV_int.2 rfl) RVs.nil) rfl rfl fun m8 aB n8 hs o24 r8 hxt hfl => ?_)
  have hfr := hfr.stp hs
  have q1 := q1.stp hs
  obtain ⟨i6, m7, h⟩ := bsome h
  refine EL_do .plain rfl (D_call (g := m8) (vs := [.int .i64 (1), .int .i64 (24), n8]) en184 (.cons rfl (.cons rfl (.cons rfl .nil))) (wk184 r8 m7) fun o0 bA dB hs hr => ?_)
  have hfr := hfr.ext hs
  have q1 := q1.ext hs
  subst hr
  refine EL_p (.bool (!i6)) (P_not rfl) rfl ?_
  refine EL_at (.bool (!i6)) rfl rfl ?_
  refine EL_nil (thn_n ?_)
  rcases csome h with ⟨u3, h⟩ | ⟨u3, h⟩
  ·refine E_ct u3 rfl ?_
   refine E_seq (E_region (EL_at (.int .i64 (2)) rfl rfl ?_))
   refine EL_nil (thn_n (E_ret (blk_r ?_)))
   refine thn_r ?_
   obtain rfl := sinj h
   exact end1 rfl rfl (show _ = .int .i64 (2) from rfl) ⟨_, hfr, rfl⟩
  ·refine E_cf u3 rfl ?_
   refine E_seq (E_region (EL_p (fPtr p1 1) (P_fieldAddr at_28_1 rfl (PT.ptr q1)) rfl ?_))
   have v8 := PT_field (part_TieHarness_1).1 q1
   refine EL_do .plain rfl (D_load (g := o0) Try.isAgg26 Try.sizeOf26 rfl v8 fun iB x8 => ?_)
   refine EL_p (.int .i64 (((x0).Warps).length : Int)) (P_len Try.underlying26 rfl x8) rfl ?_
   refine EL_p (.bool ((decide ((((x0).Warps).length : Int) > (96 : Int))))) (P_int rfl rfl rfl) rfl ?_
   refine EL_p (.bool ((decide ((((x0).Warps).length : Int) > (96 : Int))))) (P_assign rfl) rfl ?_
   refine EL_nil (thn_n ?_)
   rcases csome h with ⟨l5, h⟩ | ⟨l5, h⟩
   ·refine E_ct l5 rfl ?_
    refine E_seq (E_region (EL_at (.int .i64 (5)) rfl rfl ?_))
    refine EL_nil (thn_n (E_ret (blk_r ?_)))
    refine thn_r ?_
    obtain rfl := sinj h
    exact end1 rfl rfl (show _ = .int .i64 (5) from rfl) ⟨_, hfr, rfl⟩
   ·refine E_cf l5 rfl ?_
    refine E_seq (E_region (EL_p (fPtr p1 1) (P_fieldAddr at_28_1 rfl (PT.ptr q1)) rfl ?_))
    have a9 := PT_field (part_TieHarness_1).1 q1
    refine EL_do .plain rfl (D_load (g := o0) Try.isAgg26 Try.sizeOf26 rfl a9 fun lB d9 => ?_)
    refine EL_p (.int .i64 (((x0).Warps).length : Int)) (P_len Try.underlying26 rfl d9) rfl ?_
    refine EL_in (.bool (((((x0).Warps).length : Int) == (0 : Int)))) rfl rfl rfl rfl ?_
    refine EL_at (.bool (((((x0).Warps).length : Int) == (0 : Int)))) rfl rfl ?_
    refine EL_nil (thn_n ?_)
    rcases csome h with ⟨t5, h⟩ | ⟨t5, h⟩
    ·refine E_ct t5 rfl ?_
     refine E_seq (E_region (EL_at (.int .i64 (7)) rfl rfl ?_))
     refine EL_nil (thn_n (E_ret (blk_r ?_)))
     refine thn_r ?_
     obtain rfl := sinj h
     exact end1 rfl rfl (show _ = .int .i64 (7) from rfl) ⟨_, hfr, rfl⟩
    ·refine E_cf t5 rfl ?_
     refine E_seq (E_region (EL_p (fPtr p1 0) (P_fieldAddr at_28_0 rfl (PT.ptr q1)) rfl ?_))
     have k9 := PT_field (part_TieHarness_0).1 q1
     refine EL_do .plain rfl (D_load (g := o0) Try.isAgg3 Try.sizeOf3 rfl k9 fun mB l9 => ?_)
     obtain rfl := RV_int.1 l9
     refine EL_in (.int .i64 ((w64 ((x0).Hooks - (1 : Int))))) rfl rfl rfl rfl ?_
     refine EL_p (fPtr p1 1) (P_fieldAddr at_28_1 rfl (PT.ptr q1)) rfl ?_
     have n9 := PT_field (part_TieHarness_1).1 q1
     refine EL_do .plain rfl (D_load (g := o0) Try.isAgg26 Try.sizeOf26 rfl n9 fun u9 y9 => ?_)
     obtain ⟨x6, g8, h⟩ := bsome h
     refine EL_do .plain rfl (D_call (g := o0) (vs := [.int .i64 (0), .int .i64 ((w64 ((x0).Hooks - (1 : Int)))), u9]) en184 (.cons rfl (.cons rfl (.cons rfl .nil))) (wk184 y9 g8) fun z9 iA nB hs hr => ?_)
     have hfr := hfr.ext hs
     subst hr
     refine EL_p (.bool (!x6)) (P_not rfl) rfl ?_
     refine EL_at (.bool (!x6)) rfl rfl ?_
     refine EL_nil (thn_n ?_)
     rcases csome h with ⟨x5, h⟩ | ⟨x5, h⟩
     ·refine E_ct x5 rfl ?_
      refine E_seq (E_region (EL_at (.int .i64 (2)) rfl rfl ?_))
      refine EL_nil (thn_n (E_ret (blk_r ?_)))
      refine thn_r ?_
      obtain rfl := sinj h
      exact end1 rfl rfl (show _ = .int .i64 (2) from rfl) ⟨_, hfr, rfl⟩
     ·refine E_cf x5 rfl ?_
      exact E_skip (blk_n (thn_n (i7 () _ _ ⟨z9, hfr⟩ h)))
 ·rintro _ rA oB ⟨tB, hfr⟩ h
  refine E_seq (E_region (EL_at (.int .i64 (0)) rfl rfl ?_))
  refine EL_nil (thn_n (E_ret ?_))
  obtain rfl := sinj h
  exact end1 rfl rfl (show _ = .int .i64 (0) from rfl) ⟨_, hfr, rfl⟩
def f109 (x0 : Int) : Option (Bool) :=
 (f112 ((1 : Int)) ((24 : Int)) (([x0] : List Int))).bind fun y3 =>
 some (y3)
theorem en109 : Enters Try.prog 109 := enters_of Try.func109 (by kernel_rfl) rfl
theorem wk109 {gI : Gh} {wI : World} {x0 : Int}  {r : Bool} (h : f109 x0 = some r) : Fn Try.prog 109 #[.int .i64 (x0)] gI wI (fun _ _ v => v = .bool (r)) := by
 unfold f109 at h
 refine fn_of_E Try.func109 rfl (Nat.le_of_ble_eq_true rfl) fun g0 hm hfr => ?_
 show E _ 6 none _ _ _ _ _
 refine E_seq (E_region (EL_at (.bool false) rfl rfl ?_))
 refine EL_nil (thn_n (E_seq (E_region (EL_mw (.int .i64 (x0)) rfl rfl ?_))))
 refine EL_do .plain rfl (D_buildSlice (g := g0) 3004 (xs := ([x0] : List Int)) (vs := [.int .i64 (x0)]) Try.underlying26 Try.sizeOf3 Try.zeroValue3 rfl rfl (.cons rfl .nil) (RVs.cons (RV_int.2 rfl) RVs.nil) rfl rfl fun g1 w1 v1 hs o1 r1 hxt hfl => ?_)
 have hfr := hfr.stp hs
 obtain ⟨y3, hy3, h⟩ := bsome h
 refine EL_do .plain rfl (D_call (g := g1) (vs := [.int .i64 (1), .int .i64 (24), v1]) en112 (.cons rfl (.cons rfl (.cons rfl .nil))) (wk112 r1 hy3) fun g2 w2_ v2 hs hr => ?_)
 have hfr := hfr.ext hs
 subst hr
 refine EL_at (.bool (y3)) rfl rfl ?_
 refine EL_nil (thn_n (E_ret ?_))
 obtain rfl := sinj h
 exact end1 rfl rfl (show _ = .bool (y3) from rfl) ⟨_, hfr, rfl⟩
def f110 (x0 : Int) (x1 : List Int) : Option (Bool) :=
 (shl64 (1 : Int) x0).bind fun y1 =>
 (f112 ((0 : Int)) ((w64 (y1 - (1 : Int)))) x1).bind fun y3 =>
 some (y3)
theorem en110 : Enters Try.prog 110 := enters_of Try.func110 (by kernel_rfl) rfl
theorem wk110 {gI : Gh} {wI : World} {x0 : Int} {x1 : List Int} {up1 : Value} (rp1 : RV gI.m wI x1 up1) {r : Bool} (h : f110 x0 x1 = some r) : Fn Try.prog 110 #[.int .i64 (x0), up1] gI wI (fun _ _ v => v = .bool (r)) := by
 unfold f110 at h
 refine fn_of_E Try.func110 rfl (Nat.le_of_ble_eq_true rfl) fun g0 hm hfr => ?_
 have rp1 : RV g0.m wI x1 up1 := hm ▸ rp1
 show E _ 10 none _ _ _ _ _
 refine E_seq (E_region (EL_at (.bool false) rfl rfl ?_))
 refine EL_nil (thn_n (E_seq (E_region (EL_mw (.int .i64 (x0)) rfl rfl ?_))))
 obtain ⟨y1, hy1, h⟩ := bsome h
 refine EL_p (.int .i64 (y1)) (P_int rfl rfl (congrArg (Option.map (Value.int .i64)) hy1)) rfl ?_
 refine EL_in (.int .i64 ((w64 (y1 - (1 : Int))))) rfl rfl rfl rfl ?_
 refine EL_mw up1 rfl rfl ?_
 obtain ⟨y3, hy3, h⟩ := bsome h
 refine EL_do .plain rfl (D_call (g := g0) (vs := [.int .i64 (0), .int .i64 ((w64 (y1 - (1 : Int)))), up1]) en112 (.cons rfl (.cons rfl (.cons rfl .nil))) (wk112 rp1 hy3) fun g2 w2_ v2 hs hr => ?_)
 have hfr := hfr.ext hs
 subst hr
 refine EL_at (.bool (y3)) rfl rfl ?_
 refine EL_nil (thn_n (E_ret ?_))
 obtain rfl := sinj h
 exact end1 rfl rfl (show _ = .bool (y3) from rfl) ⟨_, hfr, rfl⟩
def f132 (x0 : ChainCard) (x1 : ChainCard) : Option (Int) :=
 (f133 ((x0).Number) ((x1).Number)).bind fun y8 =>
 some (y8)
theorem en132 : Enters Try.prog 132 := enters_of Try.func132 (by kernel_rfl) rfl
theorem wk132 {gI : Gh} {wI : World} {x0 : ChainCard} {x1 : ChainCard} {up0 : Value} (rp0 : RV gI.m wI x0 up0) {up1 : Value} (rp1 : RV gI.m wI x1 up1) {r : Int} (h : f132 x0 x1 = some r) : Fn Try.prog 132 #[up0, up1] gI wI (fun _ _ v => v = .int .i64 (r)) := by
 unfold f132 at h
 refine fn_of_E Try.func132 rfl (Nat.le_of_ble_eq_true rfl) fun g0 hm hfr => ?_
 have rp0 : RV g0.m wI x0 up0 := hm ▸ rp0
 have rp1 : RV g0.m wI x1 up1 := hm ▸ rp1
 show E _ 10 none _ _ _ _ _
 refine E_seq (E_region (EL_do .plain rfl (D_box (g := g0) rfl rp0 fun g1 w1 p1 hs q1 => ?_)))
 have hfr := hfr.ext hs
 have rp1 := rp1.ext hs
 refine EL_do .plain rfl (D_box (g := g1) rfl rp1 fun g2 w2 p2 hs q2 => ?_)
 have hfr := hfr.ext hs
 have q1 := q1.ext hs
 refine EL_at (.int .i64 (0)) rfl rfl ?_
 refine EL_nil (thn_n (E_seq (E_region (EL_p (fPtr p1 0) (P_fieldAddr at_137_0 rfl (PT.ptr q1)) rfl ?_))))
 have q3 := PT_field (part_ChainCard_0).1 q1
 refine EL_do .plain rfl (D_load (g := g2) Try.isAgg3 Try.sizeOf3 rfl q3 fun v4 r4 => ?_)
 obtain rfl := RV_int.1 r4
 refine EL_p (fPtr p2 0) (P_fieldAddr at_137_0 rfl (PT.ptr q2)) rfl ?_
 have q5 := PT_field (part_ChainCard_0).1 q2
 refine EL_do .plain rfl (D_load (g := g2) Try.isAgg3 Try.sizeOf3 rfl q5 fun v6 r6 => ?_)
 obtain rfl := RV_int.1 r6
 obtain ⟨y8, o0, h⟩ := bsome h
 refine EL_do .plain rfl (D_call (g := g2) (vs := [.int .i64 ((x0).Number), .int .i64 ((x1).Number)]) en133 (.cons rfl (.cons rfl .nil)) (wk133  o0) fun g7 w7_ v7 hs hr => ?_)
 have hfr := hfr.ext hs
 subst hr
 refine EL_at (.int .i64 (y8)) rfl rfl ?_
 refine EL_nil (thn_n (E_ret ?_))
 obtain rfl := sinj h
 exact end1 rfl rfl (show _ = .int .i64 (y8) from rfl) ⟨_, hfr, rfl⟩
theorem u272 {iO : Nat} {gI : Gh} {wI : World} {x1 : It Int} {up1 : Value} (rp1 : ItV Try.prog (RA1 (α := Int)) x1 up1 gI.m wI) {r : (List Int)} (h : f272 x1 = some r) : FnG Try.prog 272 #[.slice none 0 0, up1] gI wI (fun g w v => OS iO g w 3 r v ∧ RV g.m w r v) := by
 unfold f272 at h
 refine fnGD_of_E Try.func272 rfl (Nat.le_of_ble_eq_true rfl) fun g0 hm hfr => ?_
 have hmk : MkF g0 wI [] := MkF.start
 have rp1 : ItV Try.prog (RA1 (α := Int)) x1 up1 g0.m wI := hm ▸ rp1
 show E _ 13 none _ _ _ _ _
 refine E_seq (E_region (EL_do .plain rfl (D_boxOc (g := g0) (a := (([] : List Int) : List Int)) 2002 rfl RV_nil fun g1 w1 p1 hs b1 cb => ?_)))
 have hfr := hfr.stp hs
 have hmk := hmk.stp hs
 have rp1 := rp1.stp hs
 have x8 : OSF 2002 60200 0 g1 w1 3 26 (([] : List Int) : List Int) p1 := cb.osfr rfl (OS.nil : OS 60200 g1 w1 3 (([] : List Int) : List Int) (.slice none 0 0))
 clear cb
 refine EL_at (.slice none 0 0) rfl rfl ?_
 refine EL_nil (thn_n ?_)
 obtain ⟨x5, hx, h⟩ := bsome h
 refine E_joinD (fun e ds w => ∃ (g : Gh) , Fr gI wI g w ∧ MkF g w ds ∧ e 2 = p1 ∧ OB 2002 g w 26 (x5 : List Int) p1 ∧ OSF 2002 60200 0 g w 3 26 (x5) p1) (fun Q' hQ => ?_) (fun oB aB vB hR => ?_)
 ·replace h := hx
  clear hx
  refine E_seq (E_region (EL_mw up1 rfl rfl ?_))
  refine EL_nil (thn_n (E_block ?_))
  have hB0 := hfr.size
  have hmk0 := hmk
  obtain ⟨dB, hφ, h⟩ := bsome h
  refine E_rangeFunc (σ := ((List Int))) (s0 := ((([] : List Int) : List Int))) 10 rfl (fun _ => 0) [] (fun (s : (List Int)) (g : Gh) (w : World) => Fr gI wI g w ∧ MkF g w [] ∧ OB 2002 g w 26 (s : List Int) p1 ∧ OSF 2002 60200 0 g w 3 26 (s) p1 ∧ ItV Try.prog (RA1 (α := Int)) x1 up1 g.m w) rfl rp1 hφ (fun _ _ _ _ => rfl) rfl ra1_size rfl (fun _ _ _ _ _ hx hR => by obtain ⟨hfr, hmk, z2, z3, z4⟩ := hR; exact ⟨hfr.ist hx hB0, hmk.ist hx, z2.ist hx, z3.ist hx, z4.ist hx⟩) (fun _ _ _ _ _ hx hR => by obtain ⟨hfr, hmk, z2, z3, z4⟩ := hR; exact ⟨hfr.stp hx, hmk.stp hx, z2.stp hx rfl, z3.stp hx rfl, z4.stp hx⟩) ⟨hfr, hmk, b1, x8, rp1⟩ (fun _ h => by cases h) ?_ ?_
  ·intro tB iB s x b s2 i6 d9 vs hsz h hR hrec_0 x6 hrd
   obtain ⟨lB, hse⟩ : ∃ y, y = s := ⟨s, rfl⟩
   subst hse
   obtain ⟨hfr, hmk, l5, u2_0_25, o0⟩ := hR
   obtain ⟨t5, hxe⟩ : ∃ y, y = x := ⟨x, rfl⟩
   subst hxe
   obtain ⟨g8, rfl, y6⟩ := ra1_get hrd
   obtain rfl : g8 = .int .i64 (t5) := RV_int.1 y6
   have u3 := RFr.refl i6 d9
   refine E_region (EL_at (.int .i64 (t5)) rfl rfl ?_)
   refine EL_nil (thn_n ?_)
   obtain ⟨k9, hbr, hs, hrN⟩ := begin_round hrec_0 x6
   refine ⟨k9, hbr, ?_⟩
   have hfr := hfr.stp hs
   have hmk := hmk.stp hs
   have u3 := u3.stp hs
   have u2_0_25 := u2_0_25.stp hs rfl
   have l5 := l5.stp hs rfl
   have o0 := o0.stp hs
   have hrec_0 := hrN
   clear hbr hs hrN
   refine E_block ?_
   refine E_region (EL_do .plain rfl (D_loadOS (g := i6) Try.isAgg26 Try.sizeOf26 rfl l5 u2_0_25 fun yB i7 o27 => ?_))
   refine EL_mw (.int .i64 (t5)) rfl rfl ?_
   refine EL_do .plain rfl (D_buildSlice (g := i6) 3010 (xs := ([t5] : List Int)) (vs := [.int .i64 (t5)]) Try.underlying26 Try.sizeOf3 Try.zeroValue3 rfl rfl (.cons rfl .nil) (RVs.cons (RV_int.2 rfl) RVs.nil) rfl rfl fun l9 zB cC hs o28 n9 hxt hfl => ?_)
   have hfr := hfr.stp hs
   have hmk := hmk.stp hs
   have u3 := u3.stp hs
   have hrec_0 := hrec_0.stp hs rfl
   have l5 := l5.stp hs rfl
   have o0 := o0.stp hs
   have i7 := i7.stp hs
   have o27 := o27.stp hs rfl
   obtain ⟨u9, a9, h⟩ := bsome h
   refine EL_do .plain rfl (D_append (g := l9) (i := 60200) Try.underlying26 info_3 rfl rfl o27 i7 rfl n9 a9 fun y9 w29 z9 hs o29 r8 _ => ?_)
   have hfr := hfr.stp hs
   have hmk := hmk.stp hs
   have u3 := u3.stp hs
   have hrec_0 := hrec_0.stp hs rfl
   have l5 := l5.stp hs rfl
   have o0 := o0.stp hs
   refine EL_do .plain rfl (D_storeOc (g := y9) (v := z9) Try.sizeOf26 rfl l5 rfl r8 fun bA iA hs b31 cb => ?_)
   have k8 : OSF 2002 60200 0 bA iA 3 26 (u9 : List Int) p1 := cb.osfr (rv_cells1 r8) (o29.stp hs rfl)
   clear cb
   have hfr := hfr.stp hs
   have hmk := hmk.stp hs
   have u3 := u3.stp hs
   have hrec_0 := hrec_0.stp hs rfl
   have o0 := o0.stp hs
   refine EL_nil (blk_n ?_)
   obtain ⟨rfl, rfl⟩ := pairs2 h
   exact ⟨_, u3, ⟨hfr, hmk, b31, k8, o0⟩, hrec_0, rfl, rfl⟩
  ·intro rA mC ds33 hsz hR hds
   obtain ⟨hfr, hmk, l8, u2_0_33, mB⟩ := hR
   obtain ⟨D, hdse, hD, hDb⟩ := hds.1 rfl
   subst hdse
   replace hmk := MkF.push hmk0 hmk hD hDb
   clear hD hDb hds
   revert hmk
   generalize ({ target := .collected D, args := #[] } :: [] : List Deferred) = nB
   intro hmk
   refine ⟨fun _ => ?_, fun k c hs _ => absurd hs (Nat.succ_ne_zero k).symm⟩
   refine blk_n ?_
   obtain rfl := sinj h
   exact hQ _ _ _ ⟨rA, hfr, hmk, rfl, l8, u2_0_33⟩
 ·clear hx
  obtain ⟨yA, hfr, hmk, m8, n8, u2_0_34⟩ := hR
  refine E_seq (E_region (EL_do .plain rfl (D_loadOS (g := yA) Try.isAgg26 Try.sizeOf26 m8 n8 u2_0_34 fun v8 m7 o35 => ?_)))
  refine EL_at v8 rfl rfl ?_
  refine EL_nil (thn_n (E_ret (endM (.inr rfl) hmk fun qC rC hs => ?_)))
  have hfr := hfr.stp hs
  have m7 := m7.stp hs
  have o35 := o35.stp hs rfl
  obtain rfl := sinj h
  obtain ⟨gh, hxh, homh, hrvh⟩ := OS.handn (i := iO) hfr o35 m7
  exact end1 rfl rfl (show _ = v8 from rfl) ⟨gh, hxh, homh, hrvh⟩
def f193 (x0 : Int) (x1 : Int) : Option (Int) :=
 (f251 ((⟨(wu64 x1)⟩ : U64))).bind fun y2 =>
 (shr64 ((y2).n) (wu64 (((64 : Int)) - ((wu64 x0))))).bind fun y3 =>
 some ((w64 y3))
theorem en193 : Enters Try.prog 193 := enters_of Try.func193 (by kernel_rfl) rfl
theorem wk193 {gI : Gh} {wI : World} {x0 : Int} {x1 : Int}  {r : Int} (h : f193 x0 x1 = some r) : Fn Try.prog 193 #[.int .i64 (x0), .int .i64 (x1)] gI wI (fun _ _ v => v = .int .i64 (r)) := by
 unfold f193 at h
 refine fn_of_E Try.func193 rfl (Nat.le_of_ble_eq_true rfl) fun g0 hm hfr => ?_
 show E _ 13 none _ _ _ _ _
 refine E_seq (E_region (EL_at (.int .i64 (0)) rfl rfl ?_))
 refine EL_nil (thn_n (E_seq (E_region (EL_mw (.int .i64 (x1)) rfl rfl ?_))))
 refine EL_p (.int .u64 (wu64 x1)) (P_intu64 Try.underlying3 Try.underlying381 rfl) rfl ?_
 obtain ⟨y2, hy2, h⟩ := bsome h
 refine EL_do .plain rfl (D_call (g := g0) (vs := [.int .u64 (wu64 x1)]) en251 (.cons rfl .nil) (wk251  hy2) fun g1 w1_ v1 hs hr => ?_)
 have hfr := hfr.ext hs
 subst hr
 refine EL_mw (.int .i64 (x0)) rfl rfl ?_
 refine EL_p (.int .u64 (wu64 x0)) (P_intu64 Try.underlying231 Try.underlying95 rfl) rfl ?_
 refine EL_p (.int .u64 (wu64 (((64 : Int)) - ((wu64 x0))))) (P_usub rfl rfl) rfl ?_
 obtain ⟨y3, hy3, h⟩ := bsome h
 refine EL_p (.int .u64 (y3)) (P_shrU rfl rfl hy3) rfl ?_
 refine EL_p (.int .i64 ((w64 y3))) (P_u64int Try.underlying381 Try.underlying3 rfl) rfl ?_
 refine EL_at (.int .i64 ((w64 y3))) rfl rfl ?_
 refine EL_nil (thn_n (E_ret ?_))
 obtain rfl := sinj h
 exact end1 rfl rfl (show _ = .int .i64 ((w64 y3)) from rfl) ⟨_, hfr, rfl⟩
theorem u232 {iO : Nat} {gI : Gh} {wI : World} {x0 : It Int} {up0 : Value} (rp0 : ItV Try.prog (RA1 (α := Int)) x0 up0 gI.m wI) {r : (List Int)} (h : f232 x0 = some r) : FnG Try.prog 232 #[up0] gI wI (fun g w v => OS iO g w 3 r v ∧ RV g.m w r v) := by
 unfold f232 at h
 refine fnG_of_E Try.func232 rfl (Nat.le_of_ble_eq_true rfl) fun g0 hm hfr => ?_
 have rp0 : ItV Try.prog (RA1 (α := Int)) x0 up0 g0.m wI := hm ▸ rp0
 show E _ 5 none _ _ _ _ _
 refine E_seq (E_region (EL_at (.slice none 0 0) rfl rfl ?_))
 refine EL_nil (thn_n (E_seq (E_region (EL_mw up0 rfl rfl ?_))))
 obtain ⟨y2, hy2, h⟩ := bsome h
 refine EL_do .plain rfl (D_callG (g := g0) (vs := [.slice none 0 0, up0]) en272 (.cons rfl (.cons rfl .nil)) (u272 (iO := 4004) rp0 hy2) fun g1 w1 v1 hs m1 => ?_)
 obtain ⟨o1, r1⟩ := m1
 have hfr := hfr.ext hs
 refine EL_at v1 rfl rfl ?_
 refine EL_nil (thn_n (E_ret ?_))
 obtain rfl := sinj h
 obtain ⟨gh, hxh, homh, hrvh⟩ := OS.handn (i := iO) hfr o1 r1
 exact end1 rfl rfl (show _ = v1 from rfl) ⟨gh, hxh, homh, hrvh⟩
def f210 (x0 : List ChainCard) (x1 : ChainCard → ChainCard → Option Int) : Option ((List ChainCard)) :=
 (f266 ((wu64 ((x0).length : Int)))).bind fun y2 =>
 (f265 big x0 ((0 : Int)) (((x0).length : Int)) y2 x1).bind fun y4 =>
 some (y4)
theorem en210 : Enters Try.prog 210 := enters_of Try.func210 (by kernel_rfl) rfl
def f249 (x0 : ChainCard) (z0 : Int) : Option (Bool) :=
 Option.bind (α := Bool) (
  (f112 ((-1 : Int)) ((59 : Int)) (([(x0).Number] : List Int))).bind fun l5 =>
  bif (!l5) then
   some (true)
  else
   (f110 z0 (([(x0).Row] : List Int))).bind fun t5 =>
   some ((!t5))
  ) fun u3 =>
 some (u3)
theorem en249 : Enters Try.prog 249 := enters_of Try.func249 (by kernel_rfl) rfl
theorem wk249 {gI : Gh} {wI : World} {x0 : ChainCard} {z0 : Int} {up0 : Value} (rp0 : RV gI.m wI x0 up0) {pf0 : Value} (qf0 : PT gI.m wI z0 pf0) {r : Bool} (h : f249 x0 z0 = some r) : Fn Try.prog 249 #[up0, pf0] gI wI (fun _ _ v => v = .bool (r)) := by
 unfold f249 at h
 refine fn_of_E Try.func249 rfl (Nat.le_of_ble_eq_true rfl) fun g0 hm hfr => ?_
 have qf0 : PT g0.m wI z0 pf0 := hm ▸ qf0
 have rp0 : RV g0.m wI x0 up0 := hm ▸ rp0
 show E _ 17 none _ _ _ _ _
 refine E_seq (E_region (EL_do .plain rfl (D_box (g := g0) rfl rp0 fun g1 w1 p1 hs q1 => ?_)))
 have hfr := hfr.ext hs
 have qf0 := qf0.ext hs
 refine EL_at (.bool false) rfl rfl ?_
 refine EL_nil (thn_n ?_)
 obtain ⟨u3, hx, h⟩ := bsome h
 refine E_join (fun e w => ∃ (g : Gh) , Fr gI wI g w ∧ e 3 = .bool (u3)) (fun Q' hQ => ?_) (fun k9 u9 hR => ?_)
 ·replace h := hx
  clear hx
  refine E_region (EL_p (fPtr p1 0) (P_fieldAddr at_137_0 rfl (PT.ptr q1)) rfl ?_)
  have i7 := PT_field (part_ChainCard_0).1 q1
  refine EL_do .plain rfl (D_load (g := g1) Try.isAgg3 Try.sizeOf3 rfl i7 fun y9 m7 => ?_)
  obtain rfl := RV_int.1 m7
  refine EL_do .plain rfl (D_buildSlice (g := g1) 3006 (xs := ([(x0).Number] : List Int)) (vs := [.int .i64 ((x0).Number)]) Try.underlying26 Try.sizeOf3 Try.zeroValue3 rfl rfl (.cons rfl .nil) (RVs.cons (RV_int.2 rfl) RVs.nil) rfl rfl fun g8 z9 k8 hs o16 l8 hxt hfl => ?_)
  have hfr := hfr.stp hs
  have qf0 := qf0.stp hs
  have q1 := q1.stp hs
  obtain ⟨l5, x6, h⟩ := bsome h
  refine EL_do .plain rfl (D_call (g := g8) (vs := [.int .i64 (-1), .int .i64 (59), k8]) en112 (.cons rfl (.cons rfl (.cons rfl .nil))) (wk112 l8 x6) fun x5 l9 bA hs hr => ?_)
  have hfr := hfr.ext hs
  have qf0 := qf0.ext hs
  have q1 := q1.ext hs
  subst hr
  refine EL_p (.bool (!l5)) (P_not rfl) rfl ?_
  refine EL_mw (.bool (!l5)) rfl rfl ?_
  rcases csome h with ⟨o0, h⟩ | ⟨o0, h⟩
  ·refine EL_s rfl rfl o0 rfl rfl ?_
   iterate 5 refine EL_s rfl rfl o0 rfl rfl ?_
   refine EL_p (.bool true) (P_pick (b := (!l5)) rfl (pick_t o0 rfl)) rfl ?_
   refine EL_at (.bool true) rfl rfl ?_
   refine EL_nil ?_
   obtain rfl := sinj h
   exact hQ _ _ ⟨x5, hfr, rfl⟩
  ·refine EL_do (.yes2 rfl rfl o0) rfl (D_load (g := x5) Try.isAgg231 Try.sizeOf231 rfl qf0 fun iA m8 => ?_)
   obtain rfl := RV_int.1 m8
   refine EL_y (fPtr p1 1) (P_fieldAddr at_137_1 rfl (PT.ptr q1)) rfl rfl o0 rfl ?_
   have n8 := PT_field (part_ChainCard_1).1 q1
   refine EL_do (.yes2 rfl rfl o0) rfl (D_load (g := x5) Try.isAgg3 Try.sizeOf3 rfl n8 fun rA r8 => ?_)
   obtain rfl := RV_int.1 r8
   refine EL_do (.yes2 rfl rfl o0) rfl (D_buildSlice (g := x5) 3013 (xs := ([(x0).Row] : List Int)) (vs := [.int .i64 ((x0).Row)]) Try.underlying26 Try.sizeOf3 Try.zeroValue3 rfl rfl (.cons rfl .nil) (RVs.cons (RV_int.2 rfl) RVs.nil) rfl rfl fun v8 yA x8 hs o23 a9 hxt hfl => ?_)
   have hfr := hfr.stp hs
   obtain ⟨t5, y6, h⟩ := bsome h
   refine EL_do (.yes2 rfl rfl o0) rfl (D_call (g := v8) (vs := [.int .i64 (z0), x8]) en110 (.cons rfl (.cons rfl .nil)) (wk110 a9 y6) fun d9 n9 aB hs hr => ?_)
   have hfr := hfr.ext hs
   subst hr
   refine EL_y (.bool (!t5)) (P_not rfl) rfl rfl o0 rfl ?_
   refine EL_p (.bool (!t5)) (P_pick (b := (!l5)) rfl (pick_f o0 rfl)) rfl ?_
   refine EL_at (.bool (!t5)) rfl rfl ?_
   refine EL_nil ?_
   obtain rfl := sinj h
   exact hQ _ _ ⟨d9, hfr, rfl⟩
 ·clear hx
  obtain ⟨dB, hfr, i6⟩ := hR
  refine E_ret ?_
  obtain rfl := sinj h
  exact end1 rfl rfl (show _ = .bool (u3) from i6) ⟨_, hfr, rfl⟩
def f39 (x0 : TieHarness) (x1 : Design) : Option ((List Str) × Int) :=
 jn (σ := (List Str)) (fun l8 =>
  jn (σ := (List Str)) (fun rA =>
   Option.bind (α := (List Str)) (
    lp (σ := (List Str) × Int) (fun uD (m8, o0) =>
     bif (decide (o0 < (((x1).Rows).length : Int))) then
      Option.bind (α := (List Str)) (
       (idx ((x1).Rows) o0).bind fun d9 =>
       (f106 ((⟨x0⟩ : TieTieHarness)) d9).bind fun y81 =>
       (apnd 16 m8 (([y81] : List Str))).bind fun y84 =>
       some (y84)
       ) fun y6 =>
      uD (y6, (w64 (o0 + (1 : Int))))
     else
      some (m8)
     ) big (rA, (0 : Int))
    ) fun g8 =>
   some (g8, (0 : Int))
   ) fun vD =>
  (f102 x1).bind fun x6 =>
  bif (x6 != (0 : Int)) then
   some ([], x6)
  else
   bif ((x1).Hooks != (x0).Hooks) then
    some ([], (4 : Int))
   else
    vD (l8)
  ) fun k7 =>
 (f105 x0).bind fun i7 =>
 bif (i7 != (0 : Int)) then
  some ([], i7)
 else
  k7 ([])
theorem en39 : Enters Try.prog 39 := enters_of Try.func39 (by kernel_rfl) rfl
theorem wk39 {gI : Gh} {wI : World} {x0 : TieHarness} {x1 : Design} {up0 : Value} (rp0 : RV gI.m wI x0 up0) {up1 : Value} (rp1 : RV gI.m wI x1 up1) {r : (List Str) × Int} (h : f39 x0 x1 = some r) : Fn Try.prog 39 #[up0, up1] gI wI (fun m w v => ∃ y0 y1, v = .tuple #[y0, y1] ∧ RV m w (r.1) y0 ∧ y1 = .int .i64 (r.2)) := by
 unfold f39 at h
 refine fn_of_E Try.func39 rfl (Nat.le_of_ble_eq_true rfl) fun g0 hm hfr => ?_
 have rp0 : RV g0.m wI x0 up0 := hm ▸ rp0
 have rp1 : RV g0.m wI x1 up1 := hm ▸ rp1
 show E _ 43 none _ _ _ _ _
 refine E_seq (E_region (EL_do .plain rfl (D_box (g := g0) rfl rp0 fun g1 w1 p1 hs q1 => ?_)))
 have hfr := hfr.ext hs
 have rp1 := rp1.ext hs
 refine EL_do .plain rfl (D_box (g := g1) rfl rp1 fun g2 w2 p2 hs q2 => ?_)
 have hfr := hfr.ext hs
 have q1 := q1.ext hs
 refine EL_at (.slice none 0 0) rfl rfl ?_
 refine EL_at (.int .i64 (0)) rfl rfl ?_
 refine EL_nil (thn_n (E_joinC h (fun (s : (List Str)) e w => ∃ (g : Gh) (v4 : Value), Fr gI wI g w ∧ e 2 = p1 ∧ PT g.m w (x0 : TieHarness) p1 ∧ e 3 = p2 ∧ PT g.m w (x1 : Design) p2 ∧ e 4 = v4 ∧ RV g.m w (s : List Str) v4 ∧ OS 1004 g w 9 (s : List Str) v4) (fun X7 k7 hk7 h => ?_) ?_))
 ·refine E_seq (E_region (EL_do .plain rfl (D_load (g := g2) Try.isAgg28 Try.sizeOf28 rfl q1 fun v8 r8 => ?_)))
  obtain ⟨i7, mE, h⟩ := bsome h
  refine EL_do .plain rfl (D_call (g := g2) (vs := [v8]) en105 (.cons rfl .nil) (wk105 r8 mE) fun g9 w9_ v9 hs hr => ?_)
  have hfr := hfr.ext hs
  have q1 := q1.ext hs
  have q2 := q2.ext hs
  subst hr
  refine EL_at (.int .i64 (i7)) rfl rfl ?_
  refine EL_nil (thn_n (E_seq (E_region (EL_mw (.int .i64 (i7)) rfl rfl ?_))))
  refine EL_in (.bool ((i7 != (0 : Int)))) rfl rfl rfl rfl ?_
  refine EL_nil (thn_n ?_)
  rcases csome h with ⟨y9, h⟩ | ⟨y9, h⟩
  ·refine E_ct y9 rfl ?_
   refine E_seq (E_region (EL_mw (.int .i64 (i7)) rfl rfl ?_))
   refine EL_at (.slice none 0 0) rfl rfl ?_
   refine EL_at (.int .i64 (i7)) rfl rfl ?_
   refine EL_nil (thn_n (E_ret (thn_r ?_)))
   obtain rfl := sinj h
   exact end2 rfl rfl (show _ = .slice none 0 0 from rfl) (show _ = .int .i64 (i7) from rfl) ⟨_, hfr, _, _, rfl, RV_nil, rfl⟩
  ·refine E_cf y9 rfl ?_
   exact E_skip (thn_n (hk7 ([]) _ _ ⟨g9, (.slice none 0 0), hfr, rfl, q1, rfl, q2, rfl, RV_nil, OS.nil⟩ h))
 ·rintro l8 gG sG ⟨xD, cC, hfr, yA, m7, n8, t5, mC, x8, a9⟩ h
  refine E_joinC h (fun (s : (List Str)) e w => ∃ (g : Gh) (v4 : Value), Fr gI wI g w ∧ e 2 = p1 ∧ PT g.m w (x0 : TieHarness) p1 ∧ e 3 = p2 ∧ PT g.m w (x1 : Design) p2 ∧ e 4 = v4 ∧ RV g.m w (s : List Str) v4 ∧ OS 1004 g w 9 (s : List Str) v4) (fun X22 vD oE h => ?_) ?_
  ·refine E_seq (E_region (EL_do .plain rfl (D_load (g := xD) Try.isAgg30 Try.sizeOf30 n8 t5 fun zE cF => ?_)))
   obtain ⟨x6, rE, h⟩ := bsome h
   refine EL_do .plain rfl (D_call (g := xD) (vs := [zE]) en102 (.cons rfl .nil) (wk102 cF rE) fun mB hG xG hs hr => ?_)
   have hfr := hfr.ext hs
   have m7 := m7.ext hs
   have t5 := t5.ext hs
   have x8 := x8.ext hs
   have a9 := a9.ext hs
   subst hr
   refine EL_at (.int .i64 (x6)) rfl rfl ?_
   refine EL_nil (thn_n (E_block ?_))
   refine E_seq (E_region (EL_mw (.int .i64 (x6)) rfl rfl ?_))
   refine EL_in (.bool ((x6 != (0 : Int)))) rfl rfl rfl rfl ?_
   refine EL_at (.bool ((x6 != (0 : Int)))) rfl rfl ?_
   refine EL_nil (thn_n ?_)
   rcases csome h with ⟨z9, h⟩ | ⟨z9, h⟩
   ·refine E_ct z9 rfl ?_
    refine E_seq (E_region (EL_mw (.int .i64 (x6)) rfl rfl ?_))
    refine EL_at (.slice none 0 0) rfl rfl ?_
    refine EL_at (.int .i64 (x6)) rfl rfl ?_
    refine EL_nil (thn_n (E_ret (blk_r ?_)))
    refine thn_r ?_
    obtain rfl := sinj h
    exact end2 rfl rfl (show _ = .slice none 0 0 from rfl) (show _ = .int .i64 (x6) from rfl) ⟨_, hfr, _, _, rfl, RV_nil, rfl⟩
   ·refine E_cf z9 rfl ?_
    refine E_seq (E_region (EL_p (fPtr p2 0) (P_fieldAddr at_30_0 n8 (PT.ptr t5)) rfl ?_))
    have dF := PT_field (part_Design_0).1 t5
    refine EL_do .plain rfl (D_load (g := mB) Try.isAgg3 Try.sizeOf3 rfl dF fun yG eF => ?_)
    obtain rfl := RV_int.1 eF
    refine EL_p (fPtr p1 0) (P_fieldAddr at_28_0 yA (PT.ptr m7)) rfl ?_
    have rF := PT_field (part_TieHarness_0).1 m7
    refine EL_do .plain rfl (D_load (g := mB) Try.isAgg3 Try.sizeOf3 rfl rF fun zG sF => ?_)
    obtain rfl := RV_int.1 sF
    refine EL_in (.bool (((x1).Hooks != (x0).Hooks))) rfl rfl rfl rfl ?_
    refine EL_at (.bool (((x1).Hooks != (x0).Hooks))) rfl rfl ?_
    refine EL_nil (thn_n ?_)
    rcases csome h with ⟨bA, h⟩ | ⟨bA, h⟩
    ·refine E_ct bA rfl ?_
     refine E_seq (E_region (EL_at (.slice none 0 0) rfl rfl ?_))
     refine EL_at (.int .i64 (4)) rfl rfl ?_
     refine EL_nil (thn_n (E_ret (blk_r ?_)))
     refine thn_r ?_
     obtain rfl := sinj h
     exact end2 rfl rfl (show _ = .slice none 0 0 from rfl) (show _ = .int .i64 (4) from rfl) ⟨_, hfr, _, _, rfl, RV_nil, rfl⟩
    ·refine E_cf bA rfl ?_
     exact E_skip (blk_n (thn_n (oE (l8) _ _ ⟨mB, (cC), hfr, yA, m7, n8, t5, mC, x8, a9⟩ h)))
  ·rintro rA iG aH ⟨yD, qC, hfr, rC, uC, vC, aB, aD, bD, cD⟩ h
   obtain ⟨g8, hx, h⟩ := bsome h
   refine E_join (fun e w => ∃ (g : Gh) (v4 : Value), Fr gI wI g w ∧ e 4 = v4 ∧ RV g.m w (g8 : List Str) v4 ∧ OS 1004 g w 9 (g8 : List Str) v4) (fun Q' hQ => ?_) (fun jG cH hR => ?_)
   ·replace h := hx
    clear hx
    refine E_seq (E_region (EL_p (fPtr p2 1) (P_fieldAddr at_30_1 vC (PT.ptr aB)) rfl ?_))
    have tF := PT_field (part_Design_1).1 aB
    refine EL_do .plain rfl (D_load (g := yD) Try.isAgg26 Try.sizeOf26 rfl tF fun k9 zD => ?_)
    refine EL_p (.int .i64 (((x1).Rows).length : Int)) (P_len Try.underlying26 rfl zD) rfl ?_
    refine EL_mw (.int .i64 (0)) rfl rfl ?_
    refine EL_nil (thn_n (E_block ?_))
    refine E_lp h (fun (s : (List Str) × Int) e w => ∃ (g : Gh) (v4 : Value), Fr gI wI g w ∧ e 2 = p1 ∧ PT g.m w (x0 : TieHarness) p1 ∧ e 4 = v4 ∧ RV g.m w (s.1 : List Str) v4 ∧ OS 1004 g w 9 (s.1 : List Str) v4 ∧ e 28 = k9 ∧ RV g.m w ((x1).Rows : List Int) k9 ∧ e 29 = .int .i64 ((((x1).Rows).length : Int)) ∧ e 30 = .int .i64 (s.2)) ⟨yD, (qC), hfr, rC, uC, aD, bD, cD, rfl, zD, rfl, rfl⟩ (fun X61 uD uE => ?_)
    rintro ⟨m8, o0⟩ kG dH ⟨l9, eD, hfr, dB, l5, iB, x5, i6, n9, u3, u9, k8⟩ h
    refine E_seq (E_region (EL_p (.bool ((decide (o0 < (((x1).Rows).length : Int))))) (P_int k8 u9 rfl) rfl ?_))
    refine EL_nil (thn_n (E_seq ?_))
    rcases csome h with ⟨iA, h⟩ | ⟨iA, h⟩
    ·refine E_ct iA rfl ?_
     refine E_skip (thn_n ?_)
     obtain ⟨y6, hx, h⟩ := bsome h
     refine E_join (fun e w => ∃ (g : Gh) (v4 : Value), Fr gI wI g w ∧ e 2 = p1 ∧ PT g.m w (x0 : TieHarness) p1 ∧ e 4 = v4 ∧ RV g.m w (y6 : List Str) v4 ∧ OS 1004 g w 9 (y6 : List Str) v4 ∧ e 28 = k9 ∧ RV g.m w ((x1).Rows : List Int) k9 ∧ e 29 = .int .i64 ((((x1).Rows).length : Int)) ∧ e 30 = .int .i64 (o0)) (fun Q' hQ => ?_) (fun lG gH hR => ?_)
     ·replace h := hx
      clear hx
      refine E_block ?_
      refine E_seq (E_region ?_)
      obtain ⟨d9, nB, h⟩ := bsome h
      refine EL_p (ePtr k9 o0 1) (P_indexAddr (α := Int) Try.underlying26 Try.sizeOf3 n9 u3 k8 nB) rfl ?_
      have uF := PT_idx u3 nB
      refine EL_do .plain rfl (D_load (g := l9) Try.isAgg3 Try.sizeOf3 rfl uF fun iH vF => ?_)
      obtain rfl := RV_int.1 vF
      refine EL_at (.int .i64 (d9)) rfl rfl ?_
      refine EL_nil (thn_n (E_region (EL_mv iB rfl ?_)))
      refine EL_do .plain rfl (D_load (g := l9) Try.isAgg28 Try.sizeOf28 dB l5 fun oB aE => ?_)
      have bE : RV l9.m _ (⟨x0⟩ : TieTieHarness) (.agg (setCh [[.int .i64 0, .slice none 0 0]] [(0, oB)]).flatten.toArray) := RV_build rfl (rep_last (RV.cells aE))
      generalize vE : (Value.agg (setCh [[.int .i64 0, .slice none 0 0]] [(0, oB)]).flatten.toArray) = iE at bE
      refine EL_p iE (vE ▸ P_build (vs := [(0, oB)]) [[.int .i64 0, .slice none 0 0]] lay_221 rfl rfl (.cons rfl .nil) ⟨⟨_, rfl, cells_size aE⟩, trivial⟩) rfl ?_
      refine EL_mw (.int .i64 (d9)) rfl rfl ?_
      obtain ⟨y81, xE, h⟩ := bsome h
      refine EL_do .plain rfl (D_call (g := l9) (vs := [iE, .int .i64 (d9)]) en106 (.cons rfl (.cons rfl .nil)) (wk106 bE xE) fun xF mG jH hs hr => ?_)
      have hfr := hfr.ext hs
      have l5 := l5.ext hs
      have x5 := x5.ext hs
      have i6 := i6.ext hs
      have u3 := u3.ext hs
      subst hr
      refine EL_do .plain rfl (D_buildSlice (g := xF) 3039 (xs := ([y81] : List Str)) (vs := [Str.v (y81)]) Try.underlying50 Try.sizeOf9 Try.zeroValue9 rfl rfl (.cons rfl .nil) (RVs.cons (RV_str.2 rfl) RVs.nil) rfl rfl fun yF kH lH hs o82 zF hxt hfl => ?_)
      have hfr := hfr.stp hs
      have l5 := l5.stp hs
      have x5 := x5.stp hs
      have i6 := i6.stp hs rfl
      have u3 := u3.stp hs
      obtain ⟨y84, yE, h⟩ := bsome h
      refine EL_do .plain rfl (D_append (g := yF) (i := 1004) Try.underlying50 info_9 rfl rfl i6 x5 rfl zF yE fun aG mH lE hs o83 bG _ => ?_)
      have hfr := hfr.stp hs
      have l5 := l5.stp hs
      have u3 := u3.stp hs
      refine EL_at lE rfl rfl ?_
      refine EL_nil (blk_n ?_)
      obtain rfl := sinj h
      exact hQ _ _ ⟨aG, (lE), hfr, dB, l5, rfl, bG, o83, n9, u3, u9, k8⟩
     ·clear hx
      obtain ⟨cG, gD, hfr, iD, jD, lD, nD, oD, tB, vB, yB, zB⟩ := hR
      refine E_region (EL_in (.int .i64 ((w64 (o0 + (1 : Int))))) zB rfl rfl rfl ?_)
      refine EL_mw (.int .i64 ((w64 (o0 + (1 : Int))))) rfl rfl ?_
      exact EL_nil (thn_n (uE (y6, (w64 (o0 + (1 : Int)))) _ _ ⟨cG, (gD), hfr, iD, jD, lD, nD, oD, tB, vB, yB, rfl⟩ h))
    ·refine E_cf iA rfl ?_
     refine E_exit ?_
     refine thn_e ?_
     refine thn_e ?_
     refine blk_hit ?_
     obtain rfl := sinj h
     exact hQ _ _ ⟨l9, (eD), hfr, iB, x5, i6⟩
   ·clear hx
    obtain ⟨nH, lB, hfr, sD, tD, eG⟩ := hR
    refine E_seq (E_region (EL_mv sD rfl ?_))
    refine EL_at lB rfl rfl ?_
    refine EL_at (.int .i64 (0)) rfl rfl ?_
    refine EL_nil (thn_n (E_ret ?_))
    obtain rfl := sinj h
    exact end2 rfl rfl (show _ = lB from rfl) (show _ = .int .i64 (0) from rfl) ⟨_, hfr, _, _, rfl, tD, rfl⟩
def f42 (x0 : Design) : Option (ChainBelt × Int) :=
 jn (σ := ChainBelt) (fun z9 =>
  Option.bind (α := ChainBelt) (
   lp (σ := ChainBelt × Int) (fun k94 (m7, o0) =>
    bif (decide (o0 < (((x0).Rows).length : Int))) then
     Option.bind (α := ChainBelt) (
      (idx ((x0).Rows) o0).bind fun t5 =>
      (apnd 24 ((m7).Cards) (([(⟨o0, t5, false⟩ : ChainCard)] : List ChainCard))).bind fun a9 =>
      some ({ m7 with Cards := a9 })
      ) fun x5 =>
     k94 (x5, (w64 (o0 + (1 : Int))))
    else
     some (m7)
    ) big ({ z9 with Hooks := (x0).Hooks }, (0 : Int))
   ) fun y6 =>
  some (y6, (0 : Int))
  ) fun aD =>
 (f109 ((x0).Hooks)).bind fun bA =>
 bif (!bA) then
  some ((⟨0, []⟩ : ChainBelt), (2 : Int))
 else
  bif (decide ((((x0).Rows).length : Int) > (60 : Int))) then
   some ((⟨0, []⟩ : ChainBelt), (5 : Int))
  else
   bif ((((x0).Rows).length : Int) == (0 : Int)) then
    some ((⟨0, []⟩ : ChainBelt), (7 : Int))
   else
    (f110 ((x0).Hooks) ((x0).Rows)).bind fun iA =>
    bif (!iA) then
     some ((⟨0, []⟩ : ChainBelt), (2 : Int))
    else
     aD ((⟨0, []⟩ : ChainBelt))
theorem en42 : Enters Try.prog 42 := enters_of Try.func42 (by kernel_rfl) rfl
theorem wk42 {gI : Gh} {wI : World} {x0 : Design} {up0 : Value} (rp0 : RV gI.m wI x0 up0) {r : ChainBelt × Int} (h : f42 x0 = some r) : Fn Try.prog 42 #[up0] gI wI (fun m w v => ∃ y0 y1, v = .tuple #[y0, y1] ∧ RV m w (r.1) y0 ∧ y1 = .int .i64 (r.2)) := by
 unfold f42 at h
 refine fn_of_E Try.func42 rfl (Nat.le_of_ble_eq_true rfl) fun g0 hm hfr => ?_
 have rp0 : RV g0.m wI x0 up0 := hm ▸ rp0
 show E _ 54 none _ _ _ _ _
 refine E_seq (E_region (EL_do .plain rfl (D_box (g := g0) rfl rp0 fun g1 w1 p1 hs q1 => ?_)))
 have hfr := hfr.ext hs
 refine EL_do .plain rfl (D_allocOc (g := g1) 2002 (⟨0, []⟩ : ChainBelt) Try.zeroValue110 (fun m w => ⟨_, (rep_two rep_int rep_nil), rfl⟩) fun g2 w2 p2 hs b2 cb => ?_)
 have hfr := hfr.stp hs
 have q1 := q1.stp hs
 have k8 : OSF 2002 60201 1 g2 w2 137 110 ([] : List ChainCard) p2 := cb.osf (by rfl)
 clear cb
 refine EL_at (.int .i64 (0)) rfl rfl ?_
 refine EL_nil (thn_n (E_seq (E_region (EL_p (fPtr p1 0) (P_fieldAddr at_30_0 rfl (PT.ptr q1)) rfl ?_))))
 have q3 := PT_field (part_Design_0).1 q1
 refine EL_do .plain rfl (D_load (g := g2) Try.isAgg3 Try.sizeOf3 rfl q3 fun v4 r4 => ?_)
 obtain rfl := RV_int.1 r4
 refine EL_at (.int .i64 ((x0).Hooks)) rfl rfl ?_
 refine EL_nil (thn_n (E_joinC h (fun (s : ChainBelt) e w => ∃ (g : Gh) , Fr gI wI g w ∧ e 1 = p1 ∧ PT g.m w (x0 : Design) p1 ∧ e 2 = p2 ∧ OB 2002 g w 110 (s : ChainBelt) p2 ∧ OSF 2002 60201 1 g w 137 110 ((s).Cards) p2) (fun X31 aD gD h => ?_) ?_))
 ·refine E_block ?_
  refine E_seq (E_region (EL_mw (.int .i64 ((x0).Hooks)) rfl rfl ?_))
  obtain ⟨bA, iD, h⟩ := bsome h
  refine EL_do .plain rfl (D_call (g := g2) (vs := [.int .i64 ((x0).Hooks)]) en109 (.cons rfl .nil) (wk109  iD) fun x6 cG dH hs hr => ?_)
  have hfr := hfr.ext hs
  have q1 := q1.ext hs
  have k8 := k8.ext hs
  have b2 := b2.ext hs
  subst hr
  refine EL_p (.bool (!bA)) (P_not rfl) rfl ?_
  refine EL_at (.bool (!bA)) rfl rfl ?_
  refine EL_nil (thn_n ?_)
  rcases csome h with ⟨d9, h⟩ | ⟨d9, h⟩
  ·refine E_ct d9 rfl ?_
   refine E_seq (E_region (EL_do .plain rfl (D_loadO (g := x6) Try.isAgg110 Try.sizeOf110 rfl b2 fun mE oE => ?_)))
   refine EL_do .plain rfl (D_storeOc (g := x6) (v := mE) Try.sizeOf110 rfl b2 rfl oE fun gH iH hs b36 cb => ?_)
   clear cb
   have hfr := hfr.stp hs
   refine EL_at (.int .i64 (2)) rfl rfl ?_
   refine EL_nil (thn_n (E_ret (blk_r ?_)))
   refine thn_r ?_
   obtain rfl := sinj h
   obtain ⟨ad37, cv37, hp37, jD, cr37⟩ := ob_read Try.isAgg110 Try.sizeOf110 b36
   exact endm_ct rfl rfl ((show _ = p2 from rfl).trans hp37) jD (show _ = .int .i64 (2) from rfl) ⟨_, hfr, _, _, rfl, cr37, rfl⟩
  ·refine E_cf d9 rfl ?_
   refine E_seq (E_region (EL_p (fPtr p1 1) (P_fieldAddr at_30_1 rfl (PT.ptr q1)) rfl ?_))
   have rE := PT_field (part_Design_1).1 q1
   refine EL_do .plain rfl (D_load (g := x6) Try.isAgg26 Try.sizeOf26 rfl rE fun jH uE => ?_)
   refine EL_p (.int .i64 (((x0).Rows).length : Int)) (P_len Try.underlying26 rfl uE) rfl ?_
   refine EL_p (.bool ((decide ((((x0).Rows).length : Int) > (60 : Int))))) (P_int rfl rfl rfl) rfl ?_
   refine EL_p (.bool ((decide ((((x0).Rows).length : Int) > (60 : Int))))) (P_assign rfl) rfl ?_
   refine EL_nil (thn_n ?_)
   rcases csome h with ⟨k9, h⟩ | ⟨k9, h⟩
   ·refine E_ct k9 rfl ?_
    refine E_seq (E_region (EL_do .plain rfl (D_loadO (g := x6) Try.isAgg110 Try.sizeOf110 rfl b2 fun vE xE => ?_)))
    refine EL_do .plain rfl (D_storeOc (g := x6) (v := vE) Try.sizeOf110 rfl b2 rfl xE fun kH lH hs b42 cb => ?_)
    clear cb
    have hfr := hfr.stp hs
    refine EL_at (.int .i64 (5)) rfl rfl ?_
    refine EL_nil (thn_n (E_ret (blk_r ?_)))
    refine thn_r ?_
    obtain rfl := sinj h
    obtain ⟨ad43, cv43, hp43, lD, cr43⟩ := ob_read Try.isAgg110 Try.sizeOf110 b42
    exact endm_ct rfl rfl ((show _ = p2 from rfl).trans hp43) lD (show _ = .int .i64 (5) from rfl) ⟨_, hfr, _, _, rfl, cr43, rfl⟩
   ·refine E_cf k9 rfl ?_
    refine E_seq (E_region (EL_p (fPtr p1 1) (P_fieldAddr at_30_1 rfl (PT.ptr q1)) rfl ?_))
    have yE := PT_field (part_Design_1).1 q1
    refine EL_do .plain rfl (D_load (g := x6) Try.isAgg26 Try.sizeOf26 rfl yE fun mH zE => ?_)
    refine EL_p (.int .i64 (((x0).Rows).length : Int)) (P_len Try.underlying26 rfl zE) rfl ?_
    refine EL_in (.bool (((((x0).Rows).length : Int) == (0 : Int)))) rfl rfl rfl rfl ?_
    refine EL_at (.bool (((((x0).Rows).length : Int) == (0 : Int)))) rfl rfl ?_
    refine EL_nil (thn_n ?_)
    rcases csome h with ⟨l9, h⟩ | ⟨l9, h⟩
    ·refine E_ct l9 rfl ?_
     refine E_seq (E_region (EL_do .plain rfl (D_loadO (g := x6) Try.isAgg110 Try.sizeOf110 rfl b2 fun cF dF => ?_)))
     refine EL_do .plain rfl (D_storeOc (g := x6) (v := cF) Try.sizeOf110 rfl b2 rfl dF fun nH oH hs b48 cb => ?_)
     clear cb
     have hfr := hfr.stp hs
     refine EL_at (.int .i64 (7)) rfl rfl ?_
     refine EL_nil (thn_n (E_ret (blk_r ?_)))
     refine thn_r ?_
     obtain rfl := sinj h
     obtain ⟨ad49, cv49, hp49, nD, cr49⟩ := ob_read Try.isAgg110 Try.sizeOf110 b48
     exact endm_ct rfl rfl ((show _ = p2 from rfl).trans hp49) nD (show _ = .int .i64 (7) from rfl) ⟨_, hfr, _, _, rfl, cr49, rfl⟩
    ·refine E_cf l9 rfl ?_
     refine E_seq (E_region (EL_mw (.int .i64 ((x0).Hooks)) rfl rfl ?_))
     refine EL_p (fPtr p1 1) (P_fieldAddr at_30_1 rfl (PT.ptr q1)) rfl ?_
     have eF := PT_field (part_Design_1).1 q1
     refine EL_do .plain rfl (D_load (g := x6) Try.isAgg26 Try.sizeOf26 rfl eF fun rF sF => ?_)
     obtain ⟨iA, oD, h⟩ := bsome h
     refine EL_do .plain rfl (D_call (g := x6) (vs := [.int .i64 ((x0).Hooks), rF]) en110 (.cons rfl (.cons rfl .nil)) (wk110 sF oD) fun oB eG pH hs hr => ?_)
     have hfr := hfr.ext hs
     have q1 := q1.ext hs
     have k8 := k8.ext hs
     have b2 := b2.ext hs
     subst hr
     refine EL_p (.bool (!iA)) (P_not rfl) rfl ?_
     refine EL_at (.bool (!iA)) rfl rfl ?_
     refine EL_nil (thn_n ?_)
     rcases csome h with ⟨n9, h⟩ | ⟨n9, h⟩
     ·refine E_ct n9 rfl ?_
      refine E_seq (E_region (EL_do .plain rfl (D_loadO (g := oB) Try.isAgg110 Try.sizeOf110 rfl b2 fun tF uF => ?_)))
      refine EL_do .plain rfl (D_storeOc (g := oB) (v := tF) Try.sizeOf110 rfl b2 rfl uF fun qH sH hs b56 cb => ?_)
      clear cb
      have hfr := hfr.stp hs
      refine EL_at (.int .i64 (2)) rfl rfl ?_
      refine EL_nil (thn_n (E_ret (blk_r ?_)))
      refine thn_r ?_
      obtain rfl := sinj h
      obtain ⟨ad57, cv57, hp57, sD, cr57⟩ := ob_read Try.isAgg110 Try.sizeOf110 b56
      exact endm_ct rfl rfl ((show _ = p2 from rfl).trans hp57) sD (show _ = .int .i64 (2) from rfl) ⟨_, hfr, _, _, rfl, cr57, rfl⟩
     ·refine E_cf n9 rfl ?_
      exact E_skip (blk_n (thn_n (gD ((⟨0, []⟩ : ChainBelt)) _ _ ⟨oB, hfr, rfl, q1, rfl, b2, k8⟩ h)))
 ·rintro z9 gG tH ⟨bD, hfr, rA, i6, yA, aB, u2_1_58⟩ h
  refine E_seq (E_region (EL_p (fPtr p1 0) (P_fieldAddr at_30_0 rA (PT.ptr i6)) rfl ?_))
  have vF := PT_field (part_Design_0).1 i6
  refine EL_do .plain rfl (D_load (g := bD) Try.isAgg3 Try.sizeOf3 rfl vF fun uH xF => ?_)
  obtain rfl := RV_int.1 xF
  refine EL_p (fPtr p2 0) (P_fieldAddr at_110_0 yA (OB.ptr aB)) rfl ?_
  refine EL_do .plain rfl (D_storeFc (g := bD) part_ChainBelt_0 Try.sizeOf3 rfl aB rfl (RV_int.2 rfl) fun cD xH hs b62 rst hos => ?_)
  have u2_1_58 := u2_1_58.rest hs rst
  clear rst hos
  have hfr := hfr.stp hs
  have i6 := i6.stp hs
  refine EL_nil (thn_n ?_)
  obtain ⟨y6, hx, h⟩ := bsome h
  refine E_join (fun e w => ∃ (g : Gh) , Fr gI wI g w ∧ e 2 = p2 ∧ OB 2002 g w 110 (y6 : ChainBelt) p2 ∧ OSF 2002 60201 1 g w 137 110 ((y6).Cards) p2) (fun Q' hQ => ?_) (fun aG hG hR => ?_)
  ·replace h := hx
   clear hx
   refine E_seq (E_region (EL_p (fPtr p1 1) (P_fieldAddr at_30_1 rA (PT.ptr i6)) rfl ?_))
   have yF := PT_field (part_Design_1).1 i6
   refine EL_do .plain rfl (D_load (g := cD) Try.isAgg26 Try.sizeOf26 rfl yF fun m8 eD => ?_)
   refine EL_p (.int .i64 (((x0).Rows).length : Int)) (P_len Try.underlying26 rfl eD) rfl ?_
   refine EL_mw (.int .i64 (0)) rfl rfl ?_
   refine EL_nil (thn_n (E_block ?_))
   refine E_lp h (fun (s : ChainBelt × Int) e w => ∃ (g : Gh) , Fr gI wI g w ∧ e 2 = p2 ∧ OB 2002 g w 110 (s.1 : ChainBelt) p2 ∧ OSF 2002 60201 1 g w 137 110 ((s.1).Cards) p2 ∧ e 37 = m8 ∧ RV g.m w ((x0).Rows : List Int) m8 ∧ e 38 = .int .i64 ((((x0).Rows).length : Int)) ∧ e 39 = .int .i64 (s.2)) ⟨cD, hfr, yA, b62, u2_1_58, rfl, eD, rfl, rfl⟩ (fun X94 k94 tD => ?_)
   rintro ⟨m7, o0⟩ iG zF ⟨n8, hfr, g8, l5, u2_1_95, r8, u3, v8, i7⟩ h
   refine E_seq (E_region (EL_p (.bool ((decide (o0 < (((x0).Rows).length : Int))))) (P_int i7 v8 rfl) rfl ?_))
   refine EL_nil (thn_n (E_seq ?_))
   rcases csome h with ⟨u9, h⟩ | ⟨u9, h⟩
   ·refine E_ct u9 rfl ?_
    refine E_skip (thn_n ?_)
    obtain ⟨x5, hx, h⟩ := bsome h
    refine E_join (fun e w => ∃ (g : Gh) , Fr gI wI g w ∧ e 2 = p2 ∧ OB 2002 g w 110 (x5 : ChainBelt) p2 ∧ OSF 2002 60201 1 g w 137 110 ((x5).Cards) p2 ∧ e 37 = m8 ∧ RV g.m w ((x0).Rows : List Int) m8 ∧ e 38 = .int .i64 ((((x0).Rows).length : Int)) ∧ e 39 = .int .i64 (o0)) (fun Q' hQ => ?_) (fun bG jG hR => ?_)
    ·replace h := hx
     clear hx
     refine E_block ?_
     refine E_seq (E_region (EL_mv i7 rfl ?_))
     obtain ⟨t5, dB, h⟩ := bsome h
     refine EL_p (ePtr m8 o0 1) (P_indexAddr (α := Int) Try.underlying26 Try.sizeOf3 r8 u3 i7 dB) rfl ?_
     have uD := PT_idx u3 dB
     refine EL_do .plain rfl (D_load (g := n8) Try.isAgg3 Try.sizeOf3 rfl uD fun kG vD => ?_)
     obtain rfl := RV_int.1 vD
     refine EL_at (.int .i64 (o0)) rfl rfl ?_
     refine EL_at (.int .i64 (t5)) rfl rfl ?_
     refine EL_nil (thn_n (E_region (EL_p (fPtr p2 1) (P_fieldAddr at_110_1 g8 (OB.ptr l5)) rfl ?_)))
     refine EL_do .plain rfl (D_loadFS (g := n8) part_ChainBelt_1.1 Try.isAgg108 Try.sizeOf108 rfl l5 u2_1_95 fun lG y9 o112 => ?_)
     refine EL_mw (.int .i64 (o0)) rfl rfl ?_
     refine EL_mw (.int .i64 (t5)) rfl rfl ?_
     have tB : RV n8.m zF (⟨o0, t5, false⟩ : ChainCard) (.agg (setCh [[.int .i64 0], [.int .i64 0], [.bool false]] [(0, .int .i64 (o0)), (1, .int .i64 (t5))]).flatten.toArray) := RV_build rfl (rep_pair (rfl) (rep_pair (rfl) (rep_last (rep_bool))))
     generalize rC : (Value.agg (setCh [[.int .i64 0], [.int .i64 0], [.bool false]] [(0, .int .i64 (o0)), (1, .int .i64 (t5))]).flatten.toArray) = vB at tB
     refine EL_p vB (rC ▸ P_build (vs := [(0, .int .i64 (o0)), (1, .int .i64 (t5))]) [[.int .i64 0], [.int .i64 0], [.bool false]] lay_137 rfl rfl (.cons rfl (.cons rfl .nil)) ⟨⟨_, rfl, rfl⟩, ⟨⟨_, rfl, rfl⟩, trivial⟩⟩) rfl ?_
     refine EL_do .plain rfl (D_buildSlice (g := n8) 3049 (xs := ([(⟨o0, t5, false⟩ : ChainCard)] : List ChainCard)) (vs := [vB]) Try.underlying108 Try.sizeOf137 Try.zeroValue137 rfl rfl (.cons rfl .nil) (RVs.cons tB RVs.nil) rfl rfl fun xD mG sG hs o114 yD hxt hfl => ?_)
     have hfr := hfr.stp hs
     have l5 := l5.stp hs rfl
     have u3 := u3.stp hs
     have y9 := y9.stp hs
     have o112 := o112.stp hs rfl
     obtain ⟨a9, uC, h⟩ := bsome h
     refine EL_do .plain rfl (D_append (g := xD) (i := 60201) Try.underlying108 info_137 rfl rfl o112 y9 rfl yD uC fun zD xG yG hs o115 yB _ => ?_)
     have hfr := hfr.stp hs
     have l5 := l5.stp hs rfl
     have u3 := u3.stp hs
     refine EL_p (fPtr p2 1) (P_fieldAddr at_110_1 g8 (OB.ptr l5)) rfl ?_
     refine EL_do .plain rfl (D_storeFc (g := zD) part_ChainBelt_1 Try.sizeOf108 rfl l5 rfl yB fun aE zG hs b118 rst hos => ?_)
     have zB := hos _ _ 60201 137 (a9 : List ChainCard) (rv_cells1 yB) rfl o115
     clear rst hos
     have hfr := hfr.stp hs
     have u3 := u3.stp hs
     refine EL_nil (blk_n ?_)
     obtain rfl := sinj h
     exact hQ _ _ ⟨aE, hfr, g8, b118, zB, r8, u3, v8, i7⟩
    ·clear hx
     obtain ⟨bE, hfr, cC, mC, u2_1_119, iB, lB, mB, nB⟩ := hR
     refine E_region (EL_in (.int .i64 ((w64 (o0 + (1 : Int))))) nB rfl rfl rfl ?_)
     refine EL_mw (.int .i64 ((w64 (o0 + (1 : Int))))) rfl rfl ?_
     exact EL_nil (thn_n (tD (x5, (w64 (o0 + (1 : Int)))) _ _ ⟨bE, hfr, cC, mC, u2_1_119, iB, lB, mB, rfl⟩ h))
   ·refine E_cf u9 rfl ?_
    refine E_exit ?_
    refine thn_e ?_
    refine thn_e ?_
    refine blk_hit ?_
    obtain rfl := sinj h
    exact hQ _ _ ⟨n8, hfr, g8, l5, u2_1_95⟩
  ·clear hx
   obtain ⟨qC, hfr, l8, x8, u2_1_120⟩ := hR
   refine E_seq (E_region (EL_do .plain rfl (D_loadO (g := qC) Try.isAgg110 Try.sizeOf110 l8 x8 fun iE lE => ?_)))
   refine EL_do .plain rfl (D_storeOc (g := qC) (v := iE) Try.sizeOf110 l8 x8 rfl lE fun aH cH hs b122 cb => ?_)
   clear cb
   have hfr := hfr.stp hs
   refine EL_at (.int .i64 (0)) rfl rfl ?_
   refine EL_nil (thn_n (E_ret ?_))
   obtain rfl := sinj h
   obtain ⟨ad123, cv123, hp123, vC, cr123⟩ := ob_read Try.isAgg110 Try.sizeOf110 b122
   exact endm_ct rfl rfl ((show _ = p2 from l8).trans hp123) vC (show _ = .int .i64 (0) from rfl) ⟨_, hfr, _, _, rfl, cr123, rfl⟩
def f113 (x0 : ChainChainBelt) (x1 : Int) : Option (Int) :=
 jn (σ := Unit) (fun _ =>
  (idx (((x0).ChainBelt).Cards) x1).bind fun l5 =>
  some ((l5).Row)
  ) fun k19 =>
 (idx (((x0).ChainBelt).Cards) x1).bind fun y23 =>
 bif (y23).Turned then
  (f193 ((x0).frame) ((y23).Row)).bind fun t5 =>
  some (t5)
 else
  k19 ()
theorem en113 : Enters Try.prog 113 := enters_of Try.func113 (by kernel_rfl) rfl
theorem wk113 {gI : Gh} {wI : World} {x0 : ChainChainBelt} {x1 : Int} {up0 : Value} (rp0 : RV gI.m wI x0 up0) {r : Int} (h : f113 x0 x1 = some r) : Fn Try.prog 113 #[up0, .int .i64 (x1)] gI wI (fun _ _ v => v = .int .i64 (r)) := by
 unfold f113 at h
 refine fn_of_E Try.func113 rfl (Nat.le_of_ble_eq_true rfl) fun g0 hm hfr => ?_
 have rp0 : RV g0.m wI x0 up0 := hm ▸ rp0
 show E _ 26 none _ _ _ _ _
 refine E_seq (E_region (EL_do .plain rfl (D_box (g := g0) rfl rp0 fun g1 w1 p1 hs q1 => ?_)))
 have hfr := hfr.ext hs
 refine EL_at (.int .i64 (0)) rfl rfl ?_
 refine EL_nil (thn_n (E_joinC h (fun (s : Unit) e w => ∃ (g : Gh) , Fr gI wI g w ∧ e 1 = .int .i64 (x1) ∧ e 2 = p1 ∧ PT g.m w (x0 : ChainChainBelt) p1) (fun X19 k19 a9 h => ?_) ?_))
 ·refine E_seq (E_region (EL_p (fPtr p1 0) (P_fieldAddr at_236_0 rfl (PT.ptr q1)) rfl ?_))
  have g8 := PT_field (part_ChainChainBelt_0).1 q1
  refine EL_p (fPtr (fPtr p1 0) 1) (P_fieldAddr at_110_1 rfl (PT.ptr g8)) rfl ?_
  have k9 := PT_field (part_ChainBelt_1).1 g8
  refine EL_do .plain rfl (D_load (g := g1) Try.isAgg108 Try.sizeOf108 rfl k9 fun l9 k8 => ?_)
  refine EL_mw (.int .i64 (x1)) rfl rfl ?_
  obtain ⟨y23, i6, h⟩ := bsome h
  refine EL_p (ePtr l9 x1 3) (P_indexAddr (α := ChainCard) Try.underlying108 Try.sizeOf137 rfl k8 rfl i6) rfl ?_
  have n9 := PT_idx k8 i6
  refine EL_do .plain rfl (D_load (g := g1) Try.isAgg137 Try.sizeOf137 rfl n9 fun u9 x6 => ?_)
  refine EL_do .plain rfl (D_allocOc (g := g1) 2005 (⟨0, 0, false⟩ : ChainCard) Try.zeroValue137 (fun m w => ⟨_, (rep_two rep_int (rep_two rep_int rep_bool)), rfl⟩) fun y9 mB l8 hs b26 cb => ?_)
  have hfr := hfr.stp hs
  have q1 := q1.stp hs
  have x6 := x6.stp hs
  clear cb
  refine EL_do .plain rfl (D_storeOc (g := y9) (v := u9) Try.sizeOf137 rfl b26 rfl x6 fun o0 nB hs b27 cb => ?_)
  clear cb
  have hfr := hfr.stp hs
  have q1 := q1.stp hs
  refine EL_nil (thn_n (E_seq (E_region (EL_p (fPtr l8 2) (P_fieldAddr at_137_2 rfl (OB.ptr b27)) rfl ?_))))
  refine EL_do .plain rfl (D_loadF (g := o0) part_ChainCard_2.1 Try.isAgg4 Try.sizeOf4 rfl b27 fun oB z9 => ?_)
  obtain rfl := RV_bool.1 z9
  refine EL_nil (thn_n ?_)
  rcases csome h with ⟨u3, h⟩ | ⟨u3, h⟩
  ·refine E_ct u3 rfl ?_
   refine E_seq (E_region (EL_p (fPtr p1 2) (P_fieldAddr at_236_1 rfl (PT.ptr q1)) rfl ?_))
   have bA := PT_field (part_ChainChainBelt_1).1 q1
   refine EL_do .plain rfl (D_load (g := o0) Try.isAgg231 Try.sizeOf231 rfl bA fun tB iA => ?_)
   obtain rfl := RV_int.1 iA
   refine EL_p (fPtr l8 1) (P_fieldAddr at_137_1 rfl (OB.ptr b27)) rfl ?_
   refine EL_do .plain rfl (D_loadF (g := o0) part_ChainCard_1.1 Try.isAgg3 Try.sizeOf3 rfl b27 fun vB rA => ?_)
   obtain rfl := RV_int.1 rA
   obtain ⟨t5, d9, h⟩ := bsome h
   refine EL_do .plain rfl (D_call (g := o0) (vs := [.int .i64 ((x0).frame), .int .i64 ((y23).Row)]) en193 (.cons rfl (.cons rfl .nil)) (wk193  d9) fun yB iB zB hs hr => ?_)
   have hfr := hfr.ext hs
   subst hr
   refine EL_at (.int .i64 (t5)) rfl rfl ?_
   refine EL_nil (thn_n (E_ret (thn_r ?_)))
   obtain rfl := sinj h
   exact end1 rfl rfl (show _ = .int .i64 (t5) from rfl) ⟨_, hfr, rfl⟩
  ·refine E_cf u3 rfl ?_
   exact E_skip (thn_n (a9 () _ _ ⟨o0, hfr, rfl, rfl, q1⟩ h))
 ·rintro _ lB cC ⟨m8, hfr, i7, m7, x5⟩ h
  refine E_seq (E_region (EL_p (fPtr p1 0) (P_fieldAddr at_236_0 m7 (PT.ptr x5)) rfl ?_))
  have n8 := PT_field (part_ChainChainBelt_0).1 x5
  refine EL_p (fPtr (fPtr p1 0) 1) (P_fieldAddr at_110_1 rfl (PT.ptr n8)) rfl ?_
  have yA := PT_field (part_ChainBelt_1).1 n8
  refine EL_do .plain rfl (D_load (g := m8) Try.isAgg108 Try.sizeOf108 rfl yA fun r8 v8 => ?_)
  refine EL_mv i7 rfl ?_
  obtain ⟨l5, y6, h⟩ := bsome h
  refine EL_p (ePtr r8 x1 3) (P_indexAddr (α := ChainCard) Try.underlying108 Try.sizeOf137 rfl v8 rfl y6) rfl ?_
  have x8 := PT_idx v8 y6
  refine EL_p (fPtr (ePtr r8 x1 3) 1) (P_fieldAddr at_137_1 rfl (PT.ptr x8)) rfl ?_
  have aB := PT_field (part_ChainCard_1).1 x8
  refine EL_do .plain rfl (D_load (g := m8) Try.isAgg3 Try.sizeOf3 rfl aB fun mC dB => ?_)
  obtain rfl := RV_int.1 dB
  refine EL_at (.int .i64 ((l5).Row)) rfl rfl ?_
  refine EL_nil (thn_n (E_ret ?_))
  obtain rfl := sinj h
  exact end1 rfl rfl (show _ = .int .i64 ((l5).Row) from rfl) ⟨_, hfr, rfl⟩
def f190 (x0 : TieTieGroup) : Option ((List Int)) :=
 (f248 (((x0).TieGroup).First) (((x0).TieGroup).Last)).bind fun y9 =>
 (f232 y9).bind fun y11 =>
 Option.bind (α := (List Int)) (
  bif (((x0).TieGroup).Way == (2 : Int)) then
   lp (σ := (List Int) × Int) (fun iB (u3, o0) =>
    jn (σ := Unit) (fun _ =>
     Option.bind (α := (List Int)) (
      (idx u3 o0).bind fun m7 =>
      (apnd 8 u3 (([m7] : List Int))).bind fun y56 =>
      some (y56)
      ) fun l5 =>
     iB (l5, (w64 (o0 - (1 : Int))))
     ) fun lB =>
    bif (decide (o0 > (0 : Int))) then
     lB ()
    else
     some (u3)
    ) big (y11, (w64 (((y11).length : Int) - (2 : Int))))
  else
   some (y11)
  ) fun i6 =>
 some (i6)
theorem en190 : Enters Try.prog 190 := enters_of Try.func190 (by kernel_rfl) rfl
theorem wk190 {gI : Gh} {wI : World} {x0 : TieTieGroup} {up0 : Value} (rp0 : RV gI.m wI x0 up0) {r : (List Int)} (h : f190 x0 = some r) : Fn Try.prog 190 #[up0] gI wI (fun m w v => RV m w (r) v) := by
 unfold f190 at h
 refine fn_of_E Try.func190 rfl (Nat.le_of_ble_eq_true rfl) fun g0 hm hfr => ?_
 have rp0 : RV g0.m wI x0 up0 := hm ▸ rp0
 show E _ 32 none _ _ _ _ _
 refine E_seq (E_region (EL_do .plain rfl (D_box (g := g0) rfl rp0 fun g1 w1 p1 hs q1 => ?_)))
 have hfr := hfr.ext hs
 refine EL_at (.slice none 0 0) rfl rfl ?_
 refine EL_nil (thn_n (E_seq (E_region (EL_p (fPtr p1 0) (P_fieldAddr at_343_0 rfl (PT.ptr q1)) rfl ?_))))
 have q2 := PT_field (part_TieTieGroup_0).1 q1
 refine EL_p (fPtr (fPtr p1 0) 0) (P_fieldAddr at_229_0 rfl (PT.ptr q2)) rfl ?_
 have q3 := PT_field (part_TieGroup_0).1 q2
 refine EL_do .plain rfl (D_load (g := g1) Try.isAgg3 Try.sizeOf3 rfl q3 fun v4 r4 => ?_)
 obtain rfl := RV_int.1 r4
 refine EL_p (fPtr p1 0) (P_fieldAddr at_343_0 rfl (PT.ptr q1)) rfl ?_
 have q5 := PT_field (part_TieTieGroup_0).1 q1
 refine EL_p (fPtr (fPtr p1 0) 1) (P_fieldAddr at_229_1 rfl (PT.ptr q5)) rfl ?_
 have q6 := PT_field (part_TieGroup_1).1 q5
 refine EL_do .plain rfl (D_load (g := g1) Try.isAgg3 Try.sizeOf3 rfl q6 fun v7 r7 => ?_)
 obtain rfl := RV_int.1 r7
 obtain ⟨y9, mC, h⟩ := bsome h
 refine EL_do .plain rfl (D_call (g := g1) (vs := [.int .i64 (((x0).TieGroup).First), .int .i64 (((x0).TieGroup).Last)]) en248 (.cons rfl (.cons rfl .nil)) (wk248  mC) fun g8 w8_ v8 hs hr => ?_)
 have hfr := hfr.ext hs
 have q1 := q1.ext hs
 have r8 := hr
 obtain ⟨y11, vB, h⟩ := bsome h
 refine EL_do .plain rfl (D_callG (g := g8) (vs := [v8]) en232 (.cons rfl .nil) (u232 (iO := 4012) r8 vB) fun l9 sD k8 hs m10 => ?_)
 obtain ⟨o10, n9⟩ := m10
 have hfr := hfr.ext hs
 have q1 := q1.ext hs
 refine EL_at k8 rfl rfl ?_
 refine EL_nil (thn_n ?_)
 obtain ⟨i6, hx, h⟩ := bsome h
 refine E_join (fun e w => ∃ (g : Gh) (v3 : Value), Fr gI wI g w ∧ e 3 = v3 ∧ RV g.m w (i6 : List Int) v3 ∧ OS 4012 g w 3 (i6 : List Int) v3) (fun Q' hQ => ?_) (fun jD tD hR => ?_)
 ·replace h := hx
  clear hx
  refine E_seq (E_region (EL_p (fPtr p1 0) (P_fieldAddr at_343_0 rfl (PT.ptr q1)) rfl ?_))
  have mB := PT_field (part_TieTieGroup_0).1 q1
  refine EL_p (fPtr (fPtr p1 0) 2) (P_fieldAddr at_229_2 rfl (PT.ptr mB)) rfl ?_
  have qC := PT_field (part_TieGroup_2).1 mB
  refine EL_do .plain rfl (D_load (g := l9) Try.isAgg227 Try.sizeOf227 rfl qC fun uD rC => ?_)
  obtain rfl := RV_int.1 rC
  refine EL_in (.bool ((((x0).TieGroup).Way == (2 : Int)))) rfl rfl rfl rfl ?_
  refine EL_nil (thn_n ?_)
  rcases csome h with ⟨y6, h⟩ | ⟨y6, h⟩
  ·refine E_ct y6 rfl ?_
   refine E_seq (E_region (EL_mw k8 rfl rfl ?_))
   refine EL_p (.int .i64 ((y11).length : Int)) (P_len Try.underlying26 rfl n9) rfl ?_
   refine EL_in (.int .i64 ((w64 (((y11).length : Int) - (2 : Int))))) rfl rfl rfl rfl ?_
   refine EL_at (.int .i64 ((w64 (((y11).length : Int) - (2 : Int))))) rfl rfl ?_
   refine EL_nil (thn_n (E_block ?_))
   refine E_lp h (fun (s : (List Int) × Int) e w => ∃ (g : Gh) (v3 : Value), Fr gI wI g w ∧ e 3 = v3 ∧ RV g.m w (s.1 : List Int) v3 ∧ OS 4012 g w 3 (s.1 : List Int) v3 ∧ e 4 = .int .i64 (s.2)) ⟨l9, (k8), hfr, rfl, n9, o10, rfl⟩ (fun X39 iB yB => ?_)
   rintro ⟨u3, o0⟩ lD vD ⟨nB, t5, hfr, l8, m8, n8, x8⟩ h
   refine E_joinC h (fun (s : Unit) e w => ∃ (g : Gh) , Fr gI wI g w ∧ e 3 = t5 ∧ RV g.m w (u3 : List Int) t5 ∧ OS 4012 g w 3 (u3 : List Int) t5 ∧ e 4 = .int .i64 (o0)) (fun X42 lB zB h => ?_) ?_
   ·refine E_seq (E_region (EL_mv x8 rfl ?_))
    refine EL_in (.bool ((decide (o0 > (0 : Int))))) rfl rfl rfl rfl ?_
    refine EL_nil (thn_n ?_)
    rcases csome h with ⟨i7, h⟩ | ⟨i7, h⟩
    ·refine E_ct i7 rfl ?_
     exact E_skip (thn_n (zB () _ _ ⟨nB, hfr, l8, m8, n8, x8⟩ h))
    ·refine E_cf i7 rfl ?_
     refine E_exit ?_
     refine thn_e ?_
     refine thn_e ?_
     refine blk_hit ?_
     obtain rfl := sinj h
     exact hQ _ _ ⟨nB, (t5), hfr, l8, m8, n8⟩
   ·rintro _ nD xD ⟨oB, hfr, a9, x5, x6, d9⟩ h
    obtain ⟨l5, hx, h⟩ := bsome h
    refine E_join (fun e w => ∃ (g : Gh) (v3 : Value), Fr gI wI g w ∧ e 3 = v3 ∧ RV g.m w (l5 : List Int) v3 ∧ OS 4012 g w 3 (l5 : List Int) v3 ∧ e 4 = .int .i64 (o0)) (fun Q' hQ => ?_) (fun oD yD hR => ?_)
    ·replace h := hx
     clear hx
     refine E_block ?_
     refine E_region (EL_mv a9 rfl ?_)
     refine EL_mv a9 rfl ?_
     refine EL_mv d9 rfl ?_
     obtain ⟨m7, u9, h⟩ := bsome h
     refine EL_p (ePtr t5 o0 1) (P_indexAddr (α := Int) Try.underlying26 Try.sizeOf3 rfl x5 rfl u9) rfl ?_
     have uC := PT_idx x5 u9
     refine EL_do .plain rfl (D_load (g := oB) Try.isAgg3 Try.sizeOf3 rfl uC fun zD vC => ?_)
     obtain rfl := RV_int.1 vC
     refine EL_do .plain rfl (D_buildSlice (g := oB) 3029 (xs := ([m7] : List Int)) (vs := [.int .i64 (m7)]) Try.underlying26 Try.sizeOf3 Try.zeroValue3 rfl rfl (.cons rfl .nil) (RVs.cons (RV_int.2 rfl) RVs.nil) rfl rfl fun aD aE bE hs o54 bD hxt hfl => ?_)
     have hfr := hfr.stp hs
     have x5 := x5.stp hs
     have x6 := x6.stp hs rfl
     obtain ⟨y56, cC, h⟩ := bsome h
     refine EL_do .plain rfl (D_append (g := aD) (i := 4012) Try.underlying26 info_3 rfl rfl x6 x5 rfl bD cC fun cD iE tB hs o55 eD _ => ?_)
     have hfr := hfr.stp hs
     refine EL_at tB rfl rfl ?_
     refine EL_nil (blk_n ?_)
     obtain rfl := sinj h
     exact hQ _ _ ⟨cD, (tB), hfr, rfl, eD, o55, d9⟩
    ·clear hx
     obtain ⟨gD, z9, hfr, bA, iA, rA, yA⟩ := hR
     refine E_region (EL_mv yA rfl ?_)
     refine EL_in (.int .i64 ((w64 (o0 - (1 : Int))))) rfl rfl rfl rfl ?_
     refine EL_at (.int .i64 ((w64 (o0 - (1 : Int))))) rfl rfl ?_
     exact EL_nil (thn_n (yB (l5, (w64 (o0 - (1 : Int)))) _ _ ⟨gD, (z9), hfr, bA, iA, rA, rfl⟩ h))
  ·refine E_cf y6 rfl ?_
   refine E_skip ?_
   obtain rfl := sinj h
   exact hQ _ _ ⟨l9, (k8), hfr, rfl, n9, o10⟩
 ·clear hx
  obtain ⟨lE, k9, hfr, aB, dB, iD⟩ := hR
  refine E_seq (E_region (EL_mv aB rfl ?_))
  refine EL_at k9 rfl rfl ?_
  refine EL_nil (thn_n (E_ret ?_))
  obtain rfl := sinj h
  exact end1 rfl rfl (show _ = k9 from rfl) ⟨_, hfr, dB⟩
end Go.Proofs.Ytjoniingnbmljaa
