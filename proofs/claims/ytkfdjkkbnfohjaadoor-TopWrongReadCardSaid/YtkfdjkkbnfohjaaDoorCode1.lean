import Derived.Test.YtkfdjkkbnfohjaaDoorTypes
import Derived.Test.YtkfdjkkbnfohjaaDoorShelf
set_option maxRecDepth 8000
set_option maxHeartbeats 4000000
namespace Go.Proofs.YtkfdjkkbnfohjaaDoor
open Go.RowKit
theorem info_3 : (Tryd.prog.info? 3).map (fun i => (i.zero, i.size, i.bytes)) = some (some (.int .i64 0), 1, 8) := by kernel_rfl
theorem info_5 : (Tryd.prog.info? 5).map (fun i => (i.zero, i.size, i.bytes)) = some (some (.int .u8 0), 1, 1) := by kernel_rfl
theorem endm_c {P : Program} {e : Env} {ds : List Deferred} {w : World} {fn : Func} {R : Value → World → Prop} {t0 : Tmp} {v0 : Value} {y0 : TypeId} {a0 : Addr} (hres : fn.results = #[.cell t0 y0]) (hd : ds = []) (h0 : e t0 = .pointer (some a0)) (l0 : (loadVar y0 a0).run P w = .ok v0 w) (h : R v0 w) : atEnd P fn R .ret e ds w :=
 ⟨hd, fun tmps ht => ⟨_, by simp [results, hres, ht, asAddr, h0, l0], h⟩⟩
theorem lay_52 : layoutOf Tryd.prog 52 = some ([.int .i64 0, .slice none 0 0], [(0, 1), (1, 1)]) := by kernel_rfl
theorem mixed : Tryd.prog.follows .mixedOrders = true := by kernel_rfl
theorem lay_55 : layoutOf Tryd.prog 55 = some ([.int .i64 0, .slice none 0 0], [(0, 1), (1, 1)]) := by kernel_rfl
theorem info_9 : (Tryd.prog.info? 9).map (fun i => (i.zero, i.size, i.bytes)) = some (some (Str.v ⟨[]⟩), 1, 16) := by kernel_rfl
theorem lay_148 : layoutOf Tryd.prog 148 = some ([.int .i64 0, .int .i64 0, .int .i64 0, .int .i64 0], [(0, 1), (1, 1), (2, 1), (3, 1)]) := by kernel_rfl
theorem capf_0_2 {e : Env} {f : FuncId} {o0 : Operand} {u3 : Operand} {b0 : Value} {b1 : Value} (hb0 : ev e o0 = b0) (hb1 : ev e u3 = b1) : (Value.func (.func f) ((#[] : Array Operand).map (ev e)) ((#[o0, u3] : Array Operand).map (ev e))) = .func (.func f) #[] #[b0, b1] := by simp [hb0, hb1]
theorem capf_0_1 {e : Env} {f : FuncId} {o0 : Operand} {b0 : Value} (hb0 : ev e o0 = b0) : (Value.func (.func f) ((#[] : Array Operand).map (ev e)) ((#[o0] : Array Operand).map (ev e))) = .func (.func f) #[] #[b0] := by simp [hb0]
theorem key_3 : KeyLaw Tryd.prog 3 (Value.int .i64) := keyLaw_int Tryd.underlying3
theorem lay_231 : layoutOf Tryd.prog 231 = some ([.int .i64 0, .int .i64 0], [(0, 1), (1, 1)]) := by kernel_rfl
theorem info_231 : (Tryd.prog.info? 231).map (fun i => (i.zero, i.size, i.bytes)) = some (some (.agg #[.int .i64 0, .int .i64 0]), 2, 16) := by kernel_rfl
theorem endm_ct {P : Program} {e : Env} {ds : List Deferred} {w : World} {fn : Func} {R : Value → World → Prop} {t0 : Tmp} {v0 : Value} {y0 : TypeId} {a0 : Addr} {t1 : Tmp} {v1 : Value} (hres : fn.results = #[.cell t0 y0, .tmp t1]) (hd : ds = []) (h0 : e t0 = .pointer (some a0)) (l0 : (loadVar y0 a0).run P w = .ok v0 w) (h1 : e t1 = v1) (h : R (.tuple #[v0, v1]) w) : atEnd P fn R .ret e ds w :=
 ⟨hd, fun tmps ht => ⟨_, by simp [results, hres, ht, asAddr, h0, l0, h1], h⟩⟩
theorem endm_ctt {P : Program} {e : Env} {ds : List Deferred} {w : World} {fn : Func} {R : Value → World → Prop} {t0 : Tmp} {v0 : Value} {y0 : TypeId} {a0 : Addr} {t1 : Tmp} {v1 : Value} {t2 : Tmp} {v2 : Value} (hres : fn.results = #[.cell t0 y0, .tmp t1, .tmp t2]) (hd : ds = []) (h0 : e t0 = .pointer (some a0)) (l0 : (loadVar y0 a0).run P w = .ok v0 w) (h1 : e t1 = v1) (h2 : e t2 = v2) (h : R (.tuple #[v0, v1, v2]) w) : atEnd P fn R .ret e ds w :=
 ⟨hd, fun tmps ht => ⟨_, by simp [results, hres, ht, asAddr, h0, l0, h1, h2], h⟩⟩
theorem lay_218 : layoutOf Tryd.prog 218 = some ([.int .i64 0, .int .i64 0, .int .i64 0, .int .i64 0], [(0, 4)]) := by kernel_rfl
theorem lay_152 : layoutOf Tryd.prog 152 = some ([.int .i64 0, .slice none 0 0, .slice none 0 0], [(0, 2), (2, 1)]) := by kernel_rfl
theorem lay_129 : layoutOf Tryd.prog 129 = some ([.int .i64 0, .slice none 0 0], [(0, 2)]) := by kernel_rfl
theorem key_9 : KeyLaw Tryd.prog 9 Str.v := keyLaw_str Tryd.underlying9
theorem tup2_0 {b0 b1 : Value} {B0 : Value → Prop} {B1 : Value → Prop} (h : ∃ c0 c1 : Value, Value.tuple #[b0, b1] = .tuple #[c0, c1] ∧ B0 c0 ∧ B1 c1) : B0 b0 := by
 obtain ⟨c0, c1, he, h0, h1⟩ := h; simp at he; obtain ⟨rfl, rfl⟩ := he; exact h0
theorem endm_cct {P : Program} {e : Env} {ds : List Deferred} {w : World} {fn : Func} {R : Value → World → Prop} {t0 : Tmp} {v0 : Value} {y0 : TypeId} {a0 : Addr} {t1 : Tmp} {v1 : Value} {y1 : TypeId} {a1 : Addr} {t2 : Tmp} {v2 : Value} (hres : fn.results = #[.cell t0 y0, .cell t1 y1, .tmp t2]) (hd : ds = []) (h0 : e t0 = .pointer (some a0)) (l0 : (loadVar y0 a0).run P w = .ok v0 w) (h1 : e t1 = .pointer (some a1)) (l1 : (loadVar y1 a1).run P w = .ok v1 w) (h2 : e t2 = v2) (h : R (.tuple #[v0, v1, v2]) w) : atEnd P fn R .ret e ds w :=
 ⟨hd, fun tmps ht => ⟨_, by simp [results, hres, ht, asAddr, h0, l0, h1, l1, h2], h⟩⟩
def f114 (x0 : List Int) : Option (List Int) := apnd 8 [] x0
theorem en114 : Enters Tryd.prog 114 := enters_of Tryd.func114 (by kernel_rfl) rfl
theorem atS_0 (a : Addr) (w : World) : (Instr.fieldAt 203 (.pointer (some a)) 0).run Tryd.prog w = .ok (.pointer (some (a.add 0))) w := by simp [Instr.fieldAt, run_underlying Tryd.underlying203, Instr.sureAddr, fieldPlace, Result.andThen]
theorem atS_1 (a : Addr) (w : World) : (Instr.fieldAt 203 (.pointer (some a)) 1).run Tryd.prog w = .ok (.pointer (some (a.add 1))) w := by simp [Instr.fieldAt, run_underlying Tryd.underlying203, Instr.sureAddr, fieldPlace, Result.andThen]
theorem sb_size : (Tryd.prog.info? 203).map (·.size) = some 2 := by kernel_rfl
theorem sb_psize : ∃ j, Tryd.prog.info? 203 = some j ∧ j.size = 2 := Option.map_eq_some_iff.1 sb_size
theorem en155 : Enters Tryd.prog 155 := enters_of Tryd.func155 (by kernel_rfl) rfl
theorem ob_shape {i : Nat} {g : Gh} {w : World} {x : Fv × List UInt8} {b o : Nat} (hb : OB i g w 203 x (.pointer (some ⟨b, o, none⟩))) : o = 0 ∧ w.shape? b = some (203, 2) := by
 obtain ⟨b', cs, hp, _, _, hh, hr⟩ := hb
 injection hp with hp; injection hp with hp; injection hp with h1 h2
 subst h1; subst h2
 have hl := GoT.len hr
 simp [GoT.k] at hl
 exact ⟨rfl, by simp [World.shape?, hh, hl]⟩
theorem wk155 {i j : Nat} (hji : Nat.beq j i = false) {g : Gh} {w : World} {a : Fv} {xs : List UInt8} {p : Value} (hb : OB i g w 203 (a, xs) p) (ho : OSF i j 1 g w 5 203 xs p) (ha : a.v = .pointer none ∨ a.v = p) :
  Calls Tryd.prog 155 #[p] w fun r w' => ∃ v, r = .returned v ∧ ∃ g', Stp i g w g' w' ∧ ∃ a' : Fv, a'.v = p ∧ OB i g' w' 203 (a', xs) p ∧ OSF i j 1 g' w' 5 203 xs p := by
 obtain ⟨b, o, rfl⟩ := hb.ptr
 obtain ⟨hoff, hsh⟩ := ob_shape hb
 subst hoff
 obtain ⟨jt, hj, hjs⟩ := sb_psize
 refine calls_of_E Tryd.func155 rfl (Nat.le_of_ble_eq_true rfl) ?_
 show E _ 20 none _ _ _ _ _
 refine E_seq (E_region (EL_mw (.pointer (some ⟨b, 0, none⟩)) rfl rfl ?_))
 refine EL_p (.pointer (some ⟨b, 0, none⟩)) (P_nilCheck rfl) rfl ?_
 refine EL_p (fPtr (.pointer (some ⟨b, 0, none⟩)) 0) (P_fieldAddr atS_0 rfl ⟨b, 0, rfl⟩) rfl ?_
 refine EL_do .plain rfl (D_loadF (g := g) (a := (a, xs)) Sub.fst Tryd.isAgg201 Tryd.sizeOf201 rfl hb fun v r => ?_)
 obtain rfl := RV_fv.1 r
 rcases ha with ha | ha
 ·refine EL_p (.bool true) (P_ptreq (u2 := .pointer none) (.inl rfl) (show _ = .pointer none from ha) rfl ⟨_, rfl⟩ ⟨_, rfl⟩ (fun w => by simpa using run_eql_pointer_nil (P := Tryd.prog) w 201 none Tryd.underlying201)) rfl ?_
  refine EL_nil (thn_n (E_cond_true rfl (E_region ?_)))
  refine EL_mw (.pointer (some ⟨b, 0, none⟩)) rfl rfl ?_
  refine EL_mw (.pointer (some ⟨b, 0, none⟩)) rfl rfl ?_
  refine EL_val (v := .pointer (some ⟨b, 0, none⟩)) (w' := w) .plain (fun _ h => by cases h) rfl (by
   have := Lib.run_to_unsafe w ⟨b, 0, none⟩ Tryd.underlying201 Tryd.underlying294 hj (by rw [hjs]; decide) hsh (by show 0 < 2; omega)
   show (Sem.run _ (execOp _ _) _) = _
   simp only [execOp, Sem.run_bind]
   rw [show ev _ (Operand.tmp 8) = Value.pointer (some ⟨b, 0, none⟩) from rfl, this]
   rfl) ?_
  refine EL_p (.pointer (some ⟨b, 0, none⟩)) (P_extern Tryd.func189 (by kernel_rfl) (by kernel_rfl) (by kernel_rfl) (ex := Extern.AbiNoEscape.same) (by kernel_rfl) (.cons rfl .nil) (fun _ => rfl)) rfl ?_
  refine EL_val (v := .pointer (some ⟨b, 0, none⟩)) (w' := w) .plain (fun _ h => by cases h) rfl (by
   have := Lib.run_from_unsafe w ⟨b, 0, none⟩ Tryd.underlying294 Tryd.underlying201 hj hsh (by kernel_rfl)
   show (Sem.run _ (execOp _ _) _) = _
   simp only [execOp, Sem.run_bind]
   rw [show ev _ (Operand.tmp 10) = Value.pointer (some ⟨b, 0, none⟩) from rfl, this]
   rfl) ?_
  refine EL_p (.pointer (some ⟨b, 0, none⟩)) (P_nilCheck rfl) rfl ?_
  refine EL_p (fPtr (.pointer (some ⟨b, 0, none⟩)) 0) (P_fieldAddr atS_0 rfl ⟨b, 0, rfl⟩) rfl ?_
  refine EL_do .plain rfl (D_storeFc (g := g) (a := (a, xs)) (b := (⟨.pointer (some ⟨b, 0, none⟩), rfl⟩ : Fv)) SubS.fst Tryd.sizeOf201 rfl hb rfl (RV_fv.2 rfl) fun g1 w1 hs b1 rst _ => ?_)
  exact EL_nil (end0n rfl rfl ⟨g1, hs, _, rfl, b1, ho.rest hs rst rfl hji⟩)
 ·refine EL_p (.bool false) (P_ptreq (u2 := .pointer none) (.inl rfl) (show _ = .pointer (some ⟨b, 0, none⟩) from ha) rfl ⟨_, rfl⟩ ⟨_, rfl⟩ (fun w => by simpa using run_eql_pointer_nil (P := Tryd.prog) w 201 (some ⟨b, 0, none⟩) Tryd.underlying201)) rfl ?_
  refine EL_nil (thn_n (E_cond_false rfl ?_))
  refine E_seq (E_region (EL_mw (.pointer (some ⟨b, 0, none⟩)) rfl rfl ?_))
  refine EL_p (.pointer (some ⟨b, 0, none⟩)) (P_nilCheck rfl) rfl ?_
  refine EL_p (fPtr (.pointer (some ⟨b, 0, none⟩)) 0) (P_fieldAddr atS_0 rfl ⟨b, 0, rfl⟩) rfl ?_
  refine EL_do .plain rfl (D_loadF (g := g) (a := (a, xs)) Sub.fst Tryd.isAgg201 Tryd.sizeOf201 rfl hb fun v r => ?_)
  obtain rfl := RV_fv.1 r
  refine EL_mw (.pointer (some ⟨b, 0, none⟩)) rfl rfl ?_
  refine EL_p (.bool false) (P_ptreq (.inr rfl) (show _ = .pointer (some ⟨b, 0, none⟩) from ha) rfl ⟨_, rfl⟩ ⟨_, rfl⟩ (fun w => Lib.run_neq_ptr_same w ⟨b, 0, none⟩ Tryd.underlying201 hj)) rfl ?_
  refine EL_nil (thn_n (E_cond_false rfl (E_skip ?_)))
  exact end0n rfl rfl ⟨g, stp_refl _ _ _, _, ha, hb, ho⟩
theorem en99 : Enters Tryd.prog 99 := enters_of Tryd.func99 (by kernel_rfl) rfl
theorem wk99 {i j : Nat} (hji : Nat.beq j i = false) (hij : Nat.beq i j = false) {g : Gh} {w : World} {c : UInt8} {xs r : List UInt8} {p : Value} (hsb : SB i j g w 5 203 xs p) (hr : apnd 1 xs [c] = some r) :
  Calls Tryd.prog 99 #[p, .int .u8 c.toNat] w fun q w' => ∃ v, q = .returned v ∧ v = .nilIface ∧ WB i j g w 5 203 r p w' := by
 obtain ⟨a, hb, ho, ha⟩ := hsb
 obtain ⟨b, o, rfl⟩ := hb.ptr
 obtain ⟨hoff, hsh⟩ := ob_shape hb
 subst hoff
 refine calls_of_E Tryd.func99 rfl (Nat.le_of_ble_eq_true rfl) ?_
 show E _ 17 none _ _ _ _ _
 refine E_seq (E_region (EL_at (.nilIface) rfl rfl ?_))
 refine EL_nil (thn_n (E_seq (E_region (EL_mw (.pointer (some ⟨b, 0, none⟩)) rfl rfl ?_))))
 refine EL_do .plain rfl (D_callC (vs := [.pointer (some ⟨b, 0, none⟩)]) en155 (.cons rfl .nil) (wk155 hji hb ho ha) fun v w1 h1 => ?_)
 obtain ⟨g1, hs1, a1, ha1, hb1, ho1⟩ := h1
 refine EL_nil (thn_n (E_seq (E_region (EL_mw (.pointer (some ⟨b, 0, none⟩)) rfl rfl ?_))))
 refine EL_mw (.pointer (some ⟨b, 0, none⟩)) rfl rfl ?_
 refine EL_p (.pointer (some ⟨b, 0, none⟩)) (P_nilCheck rfl) rfl ?_
 refine EL_p (fPtr (.pointer (some ⟨b, 0, none⟩)) 1) (P_fieldAddr atS_1 rfl ⟨b, 0, rfl⟩) rfl ?_
 refine EL_do .plain rfl (D_loadFS (g := g1) (a := (a1, xs)) (f := Prod.snd) Sub.snd Tryd.isAgg47 Tryd.sizeOf47 rfl hb1 ho1 fun v2 r2 o2 => ?_)
 refine EL_mw (.int .u8 c.toNat) rfl rfl ?_
 refine EL_do .plain rfl (D_buildSlice (g := g1) 1 (xs := [c]) (vs := [.int .u8 c.toNat]) Tryd.underlying47 Tryd.sizeOf5 Tryd.zeroValue5 rfl rfl (.cons rfl .nil) (RVs.cons (RV_u8.2 rfl) RVs.nil) rfl rfl fun g3 w3 v3 _ _ r3 hxt _ => ?_)
 refine EL_do .plain rfl (D_append (g := g3) (i := j) Tryd.underlying47 info_5 rfl rfl (o2.ext hxt) (r2.ext hxt) rfl r3 hr fun g4 w4 v4 hs4 o4 r4 _ => ?_)
 have hb4 := (hb1.ext hxt).stp hs4 hij
 refine EL_p (.pointer (some ⟨b, 0, none⟩)) (P_nilCheck rfl) rfl ?_
 refine EL_p (fPtr (.pointer (some ⟨b, 0, none⟩)) 1) (P_fieldAddr atS_1 rfl ⟨b, 0, rfl⟩) rfl ?_
 refine EL_do .plain rfl (D_storeFc (g := g4) (a := (a1, xs)) SubS.snd Tryd.sizeOf47 rfl hb4 rfl r4 fun g5 w5 hs5 b5 _ hos => ?_)
 have o5 := hos _ _ j 5 r (rv_cells1 r4) hji o4
 refine EL_nil (thn_n (E_seq (E_region (EL_at (.nilIface) rfl rfl ?_))))
 refine EL_nil (thn_n (E_ret (end1 rfl rfl (show _ = .nilIface from rfl) ⟨rfl, g5, ⟨g1, w1, g4, w4, hs1, (hxt.stp.trans hs4), hs5⟩, a1, b5, o5, .inr ha1⟩)))
theorem en102 : Enters Tryd.prog 102 := enters_of Tryd.func102 (by kernel_rfl) rfl
theorem mixedS : Tryd.prog.follows .mixedOrders = true := by kernel_rfl
theorem wk102 {i j : Nat} (hij : Nat.beq i 0 = false) {g : Gh} {w : World} {xs : List UInt8} {p : Value} (hsb : SB i j g w 5 203 xs p) (h0 : xs ≠ []) :
  Calls Tryd.prog 102 #[p] w fun q w' => ∃ v, q = .returned v ∧ GS j g w xs v w' := by
 obtain ⟨a, hb, ho, ha⟩ := hsb
 obtain ⟨b, o, rfl⟩ := hb.ptr
 obtain ⟨hoff, hsh⟩ := ob_shape hb
 subst hoff
 refine calls_of_E Tryd.func102 rfl (Nat.le_of_ble_eq_true rfl) ?_
 show E _ 14 none _ _ _ _ _
 refine E_seq (E_region (EL_at (Str.v ⟨[]⟩) rfl rfl ?_))
 refine EL_nil (thn_n (L_loadFSx (f := Prod.snd) (a := (a, xs)) Sub.snd Tryd.isAgg47 Tryd.sizeOf47 hb ho fun v r os hl => ?_))
 obtain ⟨sa, c, rfl, hc, _⟩ := RV_list r
 have hne : c ≠ 0 := by
  have : 0 < xs.length := by cases xs with
   | nil => exact absurd rfl h0
   | cons _ _ => simp
  have hc' : xs.length ≤ c := hc
  omega
 refine E_seq (E_drawL (g := g) (n := 10) [] [0, 1, 2, 3, 4, 5, 6, 7, 8, 9] rfl mixedS (by kernel_rfl) trivial ?_)
 refine L_p (.pointer (some ⟨b, 0, none⟩)) rfl rfl (P_move rfl) ?_
 refine L_p (.pointer (some ⟨b, 0, none⟩)) rfl rfl (P_nilCheck rfl) ?_
 refine L_p (fPtr (.pointer (some ⟨b, 0, none⟩)) 1) rfl rfl (P_fieldAddr atS_1 rfl ⟨b, 0, rfl⟩) ?_
 refine L_ld (c := .slice sa xs.length c) rfl rfl .plain (fun _ _ h => ⟨h.ch, fun b hb _ => h.below.block b hb⟩) (hl _) rfl ?_
 refine L_p (.pointer sa) rfl rfl (P_sliceData (a := sa) (n := xs.length) (c := c) rfl (.inl hne)) ?_
 refine L_p (.pointer (some ⟨b, 0, none⟩)) rfl rfl (P_move rfl) ?_
 refine L_p (.pointer (some ⟨b, 0, none⟩)) rfl rfl (P_nilCheck rfl) ?_
 refine L_p (fPtr (.pointer (some ⟨b, 0, none⟩)) 1) rfl rfl (P_fieldAddr atS_1 rfl ⟨b, 0, rfl⟩) ?_
 refine L_ld (c := .slice sa xs.length c) rfl rfl .plain (fun _ _ h => ⟨h.ch, fun b hb _ => h.below.block b hb⟩) (hl _) rfl ?_
 refine L_p (.int .i64 (xs.length : Int)) rfl rfl (P_len (v := .slice sa xs.length c) Tryd.underlying47 rfl r) ?_
 refine L_nil fun g1 w1 hall => ?_
 have hs := hall.1
 refine EL_do .plain rfl (D_unsafeString (g := g1) (j := j) (et := 5) rfl Tryd.underlying262 (by kernel_rfl) h0 rfl rfl (os.ext hs) (r.ext hs) fun g2 w2 hs2 => ?_)
 refine EL_at (Str.v ⟨xs⟩) rfl rfl ?_
 exact EL_nil (thn_n (E_ret (end1 rfl rfl (show _ = Str.v ⟨xs⟩ from rfl) ⟨rfl, g2, hs.stp.trans hs2⟩)))
theorem en161 : Enters Tryd.prog 161 := enters_of Tryd.func161 (by kernel_rfl) rfl
theorem mul_ok : Muls Tryd.prog 161 := fun x y hx hy w => Tryd.bits_Mul x y hx hy w
def f13 (x0 : Loom) : Option (TieHarness) :=
 (rem64 (((x0).Hooks).toNat : Int) (12 : Int)).bind fun y5 =>
 Option.bind (α := TieHarness) (
  lp (σ := TieHarness × Int) (fun qC (l5, o0) =>
   jn (σ := Unit) (fun _ =>
    Option.bind (α := TieHarness) (
     Option.bind (α := Int) (
      bif (decide (o0 < (((x0).Warps).length : Int))) then
       (idx ((x0).Warps) o0).bind fun rA =>
       (rem64 ((rA).toNat : Int) (l5).Hooks).bind fun yA =>
       some (yA)
      else
       some ((0 : Int))
      ) fun l8 =>
     (apnd 8 ((l5).Warps) (([l8] : List Int))).bind fun yB =>
     some ({ l5 with Warps := yB })
     ) fun m8 =>
    qC (m8, (w64 (o0 + (1 : Int))))
    ) fun rC =>
   Option.bind (α := Bool) (
    bif (o0 == (0 : Int)) then
     some (true)
    else
     bif (decide (o0 < (((x0).Warps).length : Int))) then
      some ((decide (o0 < (30 : Int))))
     else
      some (false)
    ) fun y6 =>
   bif y6 then
    rC ()
   else
    some (l5)
   ) big ((⟨(w64 ((1 : Int) + y5)), []⟩ : TieHarness), (0 : Int))
  ) fun r8 =>
 some (r8)
theorem en13 : Enters Tryd.prog 13 := enters_of Tryd.func13 (by kernel_rfl) rfl
theorem wk13 {gI : Gh} {wI : World} {x0 : Loom} {up0 : Value} (rp0 : RV gI.m wI x0 up0) {r : TieHarness} (h : f13 x0 = some r) : Fn Tryd.prog 13 #[up0] gI wI (fun m w v => RV m w (r) v) := by
 unfold f13 at h
 refine fn_of_E Tryd.func13 rfl (Nat.le_of_ble_eq_true rfl) fun g0 hm hfr => ?_
 have rp0 : RV g0.m wI x0 up0 := hm ▸ rp0
 show E _ 48 none _ _ _ _ _
 refine E_seq (E_region (EL_do .plain rfl (D_box (g := g0) rfl rp0 fun g1 w1 p1 hs q1 => ?_)))
 have hfr := hfr.ext hs
 refine EL_do .plain rfl (D_allocOc (g := g1) 2002 (⟨0, []⟩ : TieHarness) Tryd.zeroValue52 (fun m w => ⟨_, (rep_two rep_int rep_nil), rfl⟩) fun g2 w2 p2 hs b2 cb => ?_)
 have hfr := hfr.stp hs
 have q1 := q1.stp hs
 have k9 : OSF 2002 60201 1 g2 w2 3 52 ([] : List Int) p2 := cb.osf (by rfl)
 clear cb
 refine EL_nil (thn_n (E_seq (E_region (EL_p (fPtr p1 0) (P_fieldAddr at_50_0 rfl (PT.ptr q1)) rfl ?_))))
 have q3 := PT_field (part_Loom_0).1 q1
 refine EL_do .plain rfl (D_load (g := g2) Tryd.isAgg5 Tryd.sizeOf5 rfl q3 fun v4 r4 => ?_)
 obtain rfl := RV_u8.1 r4
 refine EL_p (.int .i64 ((((x0).Hooks).toNat : Int))) (P_u8int Tryd.underlying5 Tryd.underlying3 rfl) rfl ?_
 obtain ⟨y5, hy5, h⟩ := bsome h
 refine EL_p (.int .i64 (y5)) (P_int rfl rfl (congrArg (Option.map (Value.int .i64)) hy5)) rfl ?_
 refine EL_in (.int .i64 ((w64 ((1 : Int) + y5)))) rfl rfl rfl rfl ?_
 have r6 : RV g2.m w2 (⟨(w64 ((1 : Int) + y5)), []⟩ : TieHarness) (.agg (setCh [[.int .i64 0], [.slice none 0 0]] [(0, .int .i64 ((w64 ((1 : Int) + y5))))]).flatten.toArray) := RV_build rfl (rep_pair (rfl) (rep_last (rep_nil)))
 generalize dF : (Value.agg (setCh [[.int .i64 0], [.slice none 0 0]] [(0, .int .i64 ((w64 ((1 : Int) + y5))))]).flatten.toArray) = v6 at r6
 refine EL_p v6 (dF ▸ P_build (vs := [(0, .int .i64 ((w64 ((1 : Int) + y5))))]) [[.int .i64 0], [.slice none 0 0]] lay_52 rfl rfl (.cons rfl .nil) ⟨⟨_, rfl, rfl⟩, trivial⟩) rfl ?_
 refine EL_do .plain rfl (D_allocOc (g := g2) 2003 (⟨0, []⟩ : TieHarness) Tryd.zeroValue52 (fun m w => ⟨_, (rep_two rep_int rep_nil), rfl⟩) fun g7 w7 p7 hs b7 cb => ?_)
 have hfr := hfr.stp hs
 have q1 := q1.stp hs
 have k9 := k9.stp hs rfl
 have b2 := b2.stp hs rfl
 have r6 := r6.stp hs
 have zG : OSF 2003 60301 1 g7 w7 3 52 ([] : List Int) p7 := cb.osf (by rfl)
 clear cb
 refine EL_do .plain rfl (D_storeOc (g := g7) (v := v6) Tryd.sizeOf52 rfl b7 rfl r6 fun g8 w8 hs b8 cb => ?_)
 have eF : OSF 2003 60301 1 g8 w8 3 52 ([] : List Int) p7 := cb.osf (by rw [← dF]; rfl)
 clear cb
 have hfr := hfr.stp hs
 have q1 := q1.stp hs
 have k9 := k9.stp hs rfl
 have b2 := b2.stp hs rfl
 refine EL_nil (thn_n ?_)
 obtain ⟨r8, hx, h⟩ := bsome h
 refine E_join (fun e w => ∃ (g : Gh) , Fr gI wI g w ∧ e 2 = p2 ∧ OB 2002 g w 52 ((⟨0, []⟩ : TieHarness) : TieHarness) p2 ∧ OSF 2002 60201 1 g w 3 52 (((⟨0, []⟩ : TieHarness)).Warps) p2 ∧ e 3 = p7 ∧ OB 2003 g w 52 (r8 : TieHarness) p7 ∧ OSF 2003 60301 1 g w 3 52 ((r8).Warps) p7) (fun Q' hQ => ?_) (fun kG aH hR => ?_)
 ·replace h := hx
  clear hx
  refine E_seq (E_region (EL_at (.int .i64 (0)) rfl rfl ?_))
  refine EL_nil (thn_n (E_block ?_))
  refine E_lp h (fun (s : TieHarness × Int) e w => ∃ (g : Gh) , Fr gI wI g w ∧ e 1 = p1 ∧ PT g.m w (x0 : Loom) p1 ∧ e 2 = p2 ∧ OB 2002 g w 52 ((⟨0, []⟩ : TieHarness) : TieHarness) p2 ∧ OSF 2002 60201 1 g w 3 52 (((⟨0, []⟩ : TieHarness)).Warps) p2 ∧ e 3 = p7 ∧ OB 2003 g w 52 (s.1 : TieHarness) p7 ∧ OSF 2003 60301 1 g w 3 52 ((s.1).Warps) p7 ∧ e 4 = .int .i64 (s.2)) ⟨g8, hfr, rfl, q1, rfl, b2, k9, rfl, b8, eF, rfl⟩ (fun X175 qC oE => ?_)
  rintro ⟨l5, o0⟩ lG cH ⟨aB, hfr, v8, n8, l9, n9, u2_1_176, u9, y9, u3_1_176, i7⟩ h
  refine E_joinC h (fun (s : Unit) e w => ∃ (g : Gh) , Fr gI wI g w ∧ e 1 = p1 ∧ PT g.m w (x0 : Loom) p1 ∧ e 2 = p2 ∧ OB 2002 g w 52 ((⟨0, []⟩ : TieHarness) : TieHarness) p2 ∧ OSF 2002 60201 1 g w 3 52 (((⟨0, []⟩ : TieHarness)).Warps) p2 ∧ e 3 = p7 ∧ OB 2003 g w 52 (l5 : TieHarness) p7 ∧ OSF 2003 60301 1 g w 3 52 ((l5).Warps) p7 ∧ e 4 = .int .i64 (o0)) (fun X187 rC rE h => ?_) ?_
  ·obtain ⟨y6, hx, h⟩ := bsome h
   refine E_join (fun e w => ∃ (g : Gh) , Fr gI wI g w ∧ e 1 = p1 ∧ PT g.m w (x0 : Loom) p1 ∧ e 2 = p2 ∧ OB 2002 g w 52 ((⟨0, []⟩ : TieHarness) : TieHarness) p2 ∧ OSF 2002 60201 1 g w 3 52 (((⟨0, []⟩ : TieHarness)).Warps) p2 ∧ e 3 = p7 ∧ OB 2003 g w 52 (l5 : TieHarness) p7 ∧ OSF 2003 60301 1 g w 3 52 ((l5).Warps) p7 ∧ e 4 = .int .i64 (o0) ∧ e 24 = .bool (y6)) (fun Q' hQ => ?_) (fun mG dH hR => ?_)
   ·replace h := hx
    clear hx
    refine E_region (EL_mv i7 rfl ?_)
    refine EL_in (.bool ((o0 == (0 : Int)))) rfl rfl rfl rfl ?_
    refine EL_mw (.bool ((o0 == (0 : Int)))) rfl rfl ?_
    rcases csome h with ⟨u3, h⟩ | ⟨u3, h⟩
    ·refine EL_s rfl rfl u3 rfl rfl ?_
     iterate 5 refine EL_s rfl rfl u3 rfl rfl ?_
     refine EL_skip (.off rfl rfl) rfl ?_
     refine EL_skip (.off rfl rfl) rfl ?_
     refine EL_s rfl rfl u3 rfl rfl ?_
     refine EL_p (.bool true) (P_pick (b := (o0 == (0 : Int))) rfl (pick_t u3 rfl)) rfl ?_
     refine EL_nil ?_
     obtain rfl := sinj h
     exact hQ _ _ ⟨aB, hfr, v8, n8, l9, n9, u2_1_176, u9, y9, u3_1_176, i7, rfl⟩
    ·refine EL_y (.int .i64 (o0)) (P_move i7) rfl rfl u3 rfl ?_
     refine EL_y (fPtr p1 1) (P_fieldAddr at_50_1 v8 (PT.ptr n8)) rfl rfl u3 rfl ?_
     have rF := PT_field (part_Loom_1).1 n8
     refine EL_do (.yes2 rfl rfl u3) rfl (D_load (g := aB) Tryd.isAgg47 Tryd.sizeOf47 rfl rF fun gH sF => ?_)
     refine EL_y (.int .i64 (((x0).Warps).length : Int)) (P_len Tryd.underlying47 rfl sF) rfl rfl u3 rfl ?_
     refine EL_y (.bool ((decide (o0 < (((x0).Warps).length : Int))))) (P_int rfl rfl rfl) rfl rfl u3 rfl ?_
     refine EL_y (.bool ((decide (o0 < (((x0).Warps).length : Int))))) (P_move rfl) rfl rfl u3 rfl ?_
     rcases csome h with ⟨k8, h⟩ | ⟨k8, h⟩
     ·refine EL_y (.int .i64 (o0)) (P_move i7) rfl rfl k8 rfl ?_
      refine EL_y (.bool ((decide (o0 < (30 : Int))))) (P_int rfl rfl rfl) rfl rfl k8 rfl ?_
      refine EL_y (.bool ((decide (o0 < (30 : Int))))) (P_pick (b := (decide (o0 < (((x0).Warps).length : Int)))) rfl (pick_t k8 rfl)) rfl rfl u3 rfl ?_
      refine EL_p (.bool ((decide (o0 < (30 : Int))))) (P_pick (b := (o0 == (0 : Int))) rfl (pick_f u3 rfl)) rfl ?_
      refine EL_nil ?_
      obtain rfl := sinj h
      exact hQ _ _ ⟨aB, hfr, v8, n8, l9, n9, u2_1_176, u9, y9, u3_1_176, i7, rfl⟩
     ·refine EL_s rfl rfl k8 rfl rfl ?_
      refine EL_s rfl rfl k8 rfl rfl ?_
      refine EL_y (.bool false) (P_pick (b := (decide (o0 < (((x0).Warps).length : Int)))) rfl (pick_f k8 rfl)) rfl rfl u3 rfl ?_
      refine EL_p (.bool false) (P_pick (b := (o0 == (0 : Int))) rfl (pick_f u3 rfl)) rfl ?_
      refine EL_nil ?_
      obtain rfl := sinj h
      exact hQ _ _ ⟨aB, hfr, v8, n8, l9, n9, u2_1_176, u9, y9, u3_1_176, i7, rfl⟩
   ·clear hx
    obtain ⟨uC, hfr, vC, aD, lB, mB, u2_1_196, nB, oB, u3_1_196, bD, iA⟩ := hR
    rcases csome h with ⟨dB, h⟩ | ⟨dB, h⟩
    ·refine E_cond_true (Eq.trans (show ev _ _ = .bool (y6) from iA) (congrArg Value.bool dB)) ?_
     exact E_skip (thn_n (rE () _ _ ⟨uC, hfr, vC, aD, lB, mB, u2_1_196, nB, oB, u3_1_196, bD⟩ h))
    ·refine E_cond_false (Eq.trans (show ev _ _ = .bool (y6) from iA) (congrArg Value.bool dB)) ?_
     refine E_exit ?_
     refine thn_e ?_
     refine thn_e ?_
     refine blk_hit ?_
     obtain rfl := sinj h
     exact hQ _ _ ⟨uC, hfr, lB, mB, u2_1_196, nB, oB, u3_1_196⟩
  ·rintro _ sG iH ⟨zB, hfr, x8, t5, tB, a9, u2_1_198, z9, m7, u3_1_198, d9⟩ h
   obtain ⟨m8, hx, h⟩ := bsome h
   refine E_join (fun e w => ∃ (g : Gh) , Fr gI wI g w ∧ e 1 = p1 ∧ PT g.m w (x0 : Loom) p1 ∧ e 2 = p2 ∧ OB 2002 g w 52 ((⟨0, []⟩ : TieHarness) : TieHarness) p2 ∧ OSF 2002 60201 1 g w 3 52 (((⟨0, []⟩ : TieHarness)).Warps) p2 ∧ e 3 = p7 ∧ OB 2003 g w 52 (m8 : TieHarness) p7 ∧ OSF 2003 60301 1 g w 3 52 ((m8).Warps) p7 ∧ e 4 = .int .i64 (o0)) (fun Q' hQ => ?_) (fun xG jH hR => ?_)
   ·replace h := hx
    clear hx
    refine E_block ?_
    refine E_seq (E_region (EL_at (.int .i64 (0)) rfl rfl ?_))
    refine EL_nil (thn_n ?_)
    obtain ⟨l8, hx, h⟩ := bsome h
    refine E_join (fun e w => ∃ (g : Gh) , Fr gI wI g w ∧ e 1 = p1 ∧ PT g.m w (x0 : Loom) p1 ∧ e 2 = p2 ∧ OB 2002 g w 52 ((⟨0, []⟩ : TieHarness) : TieHarness) p2 ∧ OSF 2002 60201 1 g w 3 52 (((⟨0, []⟩ : TieHarness)).Warps) p2 ∧ e 3 = p7 ∧ OB 2003 g w 52 (l5 : TieHarness) p7 ∧ OSF 2003 60301 1 g w 3 52 ((l5).Warps) p7 ∧ e 4 = .int .i64 (o0) ∧ e 5 = .int .i64 (l8)) (fun Q' hQ => ?_) (fun yG kH hR => ?_)
    ·replace h := hx
     clear hx
     refine E_seq (E_region (EL_mv d9 rfl ?_))
     refine EL_p (fPtr p1 1) (P_fieldAddr at_50_1 x8 (PT.ptr t5)) rfl ?_
     have tF := PT_field (part_Loom_1).1 t5
     refine EL_do .plain rfl (D_load (g := zB) Tryd.isAgg47 Tryd.sizeOf47 rfl tF fun lH uF => ?_)
     refine EL_p (.int .i64 (((x0).Warps).length : Int)) (P_len Tryd.underlying47 rfl uF) rfl ?_
     refine EL_p (.bool ((decide (o0 < (((x0).Warps).length : Int))))) (P_int rfl rfl rfl) rfl ?_
     refine EL_nil (thn_n ?_)
     rcases csome h with ⟨iB, h⟩ | ⟨iB, h⟩
     ·refine E_ct iB rfl ?_
      have vF := PT_field (part_Loom_1).1 t5
      refine L_load (x := .tmp 32) Tryd.isAgg47 Tryd.sizeOf47 vF fun cD eD uE => ?_
      obtain ⟨rA, mC, h⟩ := bsome h
      have xF := PT_idx eD mC
      refine L_load (x := .tmp 35) Tryd.isAgg5 Tryd.sizeOf5 xF fun mH yF vE => ?_
      obtain rfl := RV_u8.1 yF
      refine L_loadO (x := .tmp 38) part_TieHarness_0.1 Tryd.isAgg3 Tryd.sizeOf3 m7 fun nH zF xE => ?_
      obtain rfl := RV_int.1 zF
      obtain ⟨yA, yE, h⟩ := bsome h
      refine E_drawL (g := zB) (n := 10) [] [0, 1, 2, 3, 4, 5, 6, 7, 8, 9] rfl mixed (by kernel_rfl) trivial ?_
      refine L_p (fPtr p1 1) rfl rfl (P_fieldAddr at_50_1 x8 (PT.ptr t5)) ?_
      refine L_ld (c := cD) rfl rfl .plain (fun _ _ h => h.ch) uE rfl ?_
      refine L_p (.int .i64 (o0)) rfl rfl (P_move d9) ?_
      refine L_p (ePtr cD o0 1) rfl rfl (P_indexAddr (α := UInt8) Tryd.underlying47 Tryd.sizeOf5 rfl eD rfl mC) ?_
      refine L_ld (c := .int .u8 (UInt8.toNat (rA))) rfl rfl .plain (fun _ _ h => h.ch) vE rfl ?_
      refine L_p (.int .i64 (((rA).toNat : Int))) rfl rfl (P_u8int Tryd.underlying5 Tryd.underlying3 rfl) ?_
      refine L_p (fPtr p7 0) rfl rfl (P_fieldAddr at_52_0 z9 (OB.ptr m7)) ?_
      refine L_ld (c := .int .i64 ((l5).Hooks)) rfl rfl .plain (fun _ _ h => ⟨h.ch, fun b hb _ => h.below.block b hb⟩) xE rfl ?_
      refine L_p (.int .i64 (yA)) rfl rfl (P_int rfl rfl (congrArg (Option.map (Value.int .i64)) yE)) ?_
      refine L_p (.int .i64 (yA)) rfl rfl (P_assign rfl) ?_
      refine L_nl fun aG oH hs => ?_
      have hfr := hfr.ext hs
      have t5 := t5.ext hs
      have u2_1_198 := u2_1_198.ext hs
      have a9 := a9.ext hs
      have u3_1_198 := u3_1_198.ext hs
      have m7 := m7.ext hs
      clear hs
      refine EL_nil ?_
      obtain rfl := sinj h
      exact hQ _ _ ⟨aG, hfr, x8, t5, tB, a9, u2_1_198, z9, m7, u3_1_198, d9, rfl⟩
     ·refine E_cf iB rfl ?_
      refine E_skip ?_
      obtain rfl := sinj h
      exact hQ _ _ ⟨zB, hfr, x8, t5, tB, a9, u2_1_198, z9, m7, u3_1_198, d9, rfl⟩
    ·clear hx
     obtain ⟨gD, hfr, iD, i6, jD, x6, u2_1_331, bA, x5, u3_1_331, lD, nD⟩ := hR
     refine E_region (EL_p (fPtr p7 1) (P_fieldAddr at_52_1 bA (OB.ptr x5)) rfl ?_)
     refine EL_do .plain rfl (D_loadFS (g := gD) part_TieHarness_1.1 Tryd.isAgg34 Tryd.sizeOf34 rfl x5 u3_1_331 fun pH cC o333 => ?_)
     refine EL_mv nD rfl ?_
     refine EL_do .plain rfl (D_buildSlice (g := gD) 3044 (xs := ([l8] : List Int)) (vs := [.int .i64 (l8)]) Tryd.underlying34 Tryd.sizeOf3 Tryd.zeroValue3 rfl rfl (.cons rfl .nil) (RVs.cons (RV_int.2 rfl) RVs.nil) rfl rfl fun bG qH sH hs o334 cG hxt hfl => ?_)
     have hfr := hfr.stp hs
     have i6 := i6.stp hs
     have u2_1_331 := u2_1_331.stp hs rfl
     have x6 := x6.stp hs rfl
     have x5 := x5.stp hs rfl
     have cC := cC.stp hs
     have o333 := o333.stp hs rfl
     obtain ⟨yB, zE, h⟩ := bsome h
     refine EL_do .plain rfl (D_append (g := bG) (i := 60301) Tryd.underlying34 info_3 rfl rfl o333 cC rfl cG zE fun eG tH uH hs o335 oD _ => ?_)
     have hfr := hfr.stp hs
     have i6 := i6.stp hs
     have u2_1_331 := u2_1_331.stp hs rfl
     have x6 := x6.stp hs rfl
     have x5 := x5.stp hs rfl
     refine EL_p (fPtr p7 1) (P_fieldAddr at_52_1 bA (OB.ptr x5)) rfl ?_
     refine EL_do .plain rfl (D_storeFc (g := eG) part_TieHarness_1 Tryd.sizeOf34 rfl x5 rfl oD fun gG xH hs b338 rst hos => ?_)
     have sD := hos _ _ 60301 3 (yB : List Int) (rv_cells1 oD) rfl o335
     clear rst hos
     have hfr := hfr.stp hs
     have i6 := i6.stp hs
     have u2_1_331 := u2_1_331.stp hs rfl
     have x6 := x6.stp hs rfl
     refine EL_nil (blk_n ?_)
     obtain rfl := sinj h
     exact hQ _ _ ⟨gG, hfr, iD, i6, jD, x6, u2_1_331, bA, b338, sD, lD⟩
   ·clear hx
    obtain ⟨hG, hfr, tD, uD, vD, xD, u2_1_339, yD, zD, u3_1_339, aE⟩ := hR
    refine E_region (EL_mv aE rfl ?_)
    refine EL_in (.int .i64 ((w64 (o0 + (1 : Int))))) rfl rfl rfl rfl ?_
    refine EL_at (.int .i64 ((w64 (o0 + (1 : Int))))) rfl rfl ?_
    exact EL_nil (thn_n (oE (m8, (w64 (o0 + (1 : Int)))) _ _ ⟨hG, hfr, tD, uD, vD, xD, u2_1_339, yD, zD, u3_1_339, rfl⟩ h))
 ·clear hx
  obtain ⟨bE, hfr, vB, iE, u2_1_340, lE, mE, u3_1_340⟩ := hR
  refine E_seq (E_region (EL_do .plain rfl (D_loadO (g := bE) Tryd.isAgg52 Tryd.sizeOf52 lE mE fun iG jG => ?_)))
  refine EL_do .plain rfl (D_storeOc (g := bE) (v := iG) Tryd.sizeOf52 vB iE rfl jG fun yH zH hs b342 cb => ?_)
  clear cb
  have hfr := hfr.stp hs
  refine EL_nil (thn_n (E_ret ?_))
  obtain rfl := sinj h
  obtain ⟨ad343, cv343, hp343, cF, cr343⟩ := ob_read Tryd.isAgg52 Tryd.sizeOf52 b342
  exact endm_c rfl rfl ((show _ = p2 from vB).trans hp343) cF ⟨_, hfr, cr343⟩
def f14 (x0 : Loom) : Option (Design) :=
 (rem64 (((x0).Hooks).toNat : Int) (12 : Int)).bind fun y5 =>
 Option.bind (α := Design) (
  lp (σ := Design × Int) (fun rE (t5, o0) =>
   jn (σ := Unit) (fun _ =>
    Option.bind (α := Design) (
     Option.bind (α := Int) (
      bif (decide (o0 < (((x0).Rows).length : Int))) then
       (idx ((x0).Rows) o0).bind fun n9 =>
       some (((n9).toNat : Int))
      else
       some ((21 : Int))
      ) fun x6 =>
     (shl64 (1 : Int) ((wu64 (t5).Hooks))).bind fun y161 =>
     (apnd 8 ((t5).Rows) (([(bit64 .and x6 (w64 (y161 - (1 : Int))))] : List Int))).bind fun vB =>
     some ({ t5 with Rows := vB })
     ) fun k8 =>
    rE (k8, (w64 (o0 + (1 : Int))))
    ) fun qC =>
   Option.bind (α := Bool) (
    bif (o0 == (0 : Int)) then
     some (true)
    else
     bif (decide (o0 < (((x0).Rows).length : Int))) then
      some ((decide (o0 < (10 : Int))))
     else
      some (false)
    ) fun y6 =>
   bif y6 then
    qC ()
   else
    some (t5)
   ) big ((⟨(w64 ((1 : Int) + y5)), []⟩ : Design), (0 : Int))
  ) fun m8 =>
 some (m8)
theorem en14 : Enters Tryd.prog 14 := enters_of Tryd.func14 (by kernel_rfl) rfl
theorem wk14 {gI : Gh} {wI : World} {x0 : Loom} {up0 : Value} (rp0 : RV gI.m wI x0 up0) {r : Design} (h : f14 x0 = some r) : Fn Tryd.prog 14 #[up0] gI wI (fun m w v => RV m w (r) v) := by
 unfold f14 at h
 refine fn_of_E Tryd.func14 rfl (Nat.le_of_ble_eq_true rfl) fun g0 hm hfr => ?_
 have rp0 : RV g0.m wI x0 up0 := hm ▸ rp0
 show E _ 51 none _ _ _ _ _
 refine E_seq (E_region (EL_do .plain rfl (D_box (g := g0) rfl rp0 fun g1 w1 p1 hs q1 => ?_)))
 have hfr := hfr.ext hs
 refine EL_do .plain rfl (D_allocOc (g := g1) 2002 (⟨0, []⟩ : Design) Tryd.zeroValue55 (fun m w => ⟨_, (rep_two rep_int rep_nil), rfl⟩) fun g2 w2 p2 hs b2 cb => ?_)
 have hfr := hfr.stp hs
 have q1 := q1.stp hs
 have d9 : OSF 2002 60201 1 g2 w2 3 55 ([] : List Int) p2 := cb.osf (by rfl)
 clear cb
 refine EL_nil (thn_n (E_seq (E_region (EL_p (fPtr p1 0) (P_fieldAddr at_50_0 rfl (PT.ptr q1)) rfl ?_))))
 have q3 := PT_field (part_Loom_0).1 q1
 refine EL_do .plain rfl (D_load (g := g2) Tryd.isAgg5 Tryd.sizeOf5 rfl q3 fun v4 r4 => ?_)
 obtain rfl := RV_u8.1 r4
 refine EL_p (.int .i64 ((((x0).Hooks).toNat : Int))) (P_u8int Tryd.underlying5 Tryd.underlying3 rfl) rfl ?_
 obtain ⟨y5, hy5, h⟩ := bsome h
 refine EL_p (.int .i64 (y5)) (P_int rfl rfl (congrArg (Option.map (Value.int .i64)) hy5)) rfl ?_
 refine EL_in (.int .i64 ((w64 ((1 : Int) + y5)))) rfl rfl rfl rfl ?_
 have r6 : RV g2.m w2 (⟨(w64 ((1 : Int) + y5)), []⟩ : Design) (.agg (setCh [[.int .i64 0], [.slice none 0 0]] [(0, .int .i64 ((w64 ((1 : Int) + y5))))]).flatten.toArray) := RV_build rfl (rep_pair (rfl) (rep_last (rep_nil)))
 generalize uE : (Value.agg (setCh [[.int .i64 0], [.slice none 0 0]] [(0, .int .i64 ((w64 ((1 : Int) + y5))))]).flatten.toArray) = v6 at r6
 refine EL_p v6 (uE ▸ P_build (vs := [(0, .int .i64 ((w64 ((1 : Int) + y5))))]) [[.int .i64 0], [.slice none 0 0]] lay_55 rfl rfl (.cons rfl .nil) ⟨⟨_, rfl, rfl⟩, trivial⟩) rfl ?_
 refine EL_do .plain rfl (D_allocOc (g := g2) 2003 (⟨0, []⟩ : Design) Tryd.zeroValue55 (fun m w => ⟨_, (rep_two rep_int rep_nil), rfl⟩) fun g7 w7 p7 hs b7 cb => ?_)
 have hfr := hfr.stp hs
 have q1 := q1.stp hs
 have d9 := d9.stp hs rfl
 have b2 := b2.stp hs rfl
 have r6 := r6.stp hs
 have kG : OSF 2003 60301 1 g7 w7 3 55 ([] : List Int) p7 := cb.osf (by rfl)
 clear cb
 refine EL_do .plain rfl (D_storeOc (g := g7) (v := v6) Tryd.sizeOf55 rfl b7 rfl r6 fun g8 w8 hs b8 cb => ?_)
 have vE : OSF 2003 60301 1 g8 w8 3 55 ([] : List Int) p7 := cb.osf (by rw [← uE]; rfl)
 clear cb
 have hfr := hfr.stp hs
 have q1 := q1.stp hs
 have d9 := d9.stp hs rfl
 have b2 := b2.stp hs rfl
 refine EL_nil (thn_n ?_)
 obtain ⟨m8, hx, h⟩ := bsome h
 refine E_join (fun e w => ∃ (g : Gh) , Fr gI wI g w ∧ e 2 = p2 ∧ OB 2002 g w 55 ((⟨0, []⟩ : Design) : Design) p2 ∧ OSF 2002 60201 1 g w 3 55 (((⟨0, []⟩ : Design)).Rows) p2 ∧ e 3 = p7 ∧ OB 2003 g w 55 (m8 : Design) p7 ∧ OSF 2003 60301 1 g w 3 55 ((m8).Rows) p7) (fun Q' hQ => ?_) (fun eG lG hR => ?_)
 ·replace h := hx
  clear hx
  refine E_seq (E_region (EL_at (.int .i64 (0)) rfl rfl ?_))
  refine EL_nil (thn_n (E_block ?_))
  refine E_lp h (fun (s : Design × Int) e w => ∃ (g : Gh) , Fr gI wI g w ∧ e 1 = p1 ∧ PT g.m w (x0 : Loom) p1 ∧ e 2 = p2 ∧ OB 2002 g w 55 ((⟨0, []⟩ : Design) : Design) p2 ∧ OSF 2002 60201 1 g w 3 55 (((⟨0, []⟩ : Design)).Rows) p2 ∧ e 3 = p7 ∧ OB 2003 g w 55 (s.1 : Design) p7 ∧ OSF 2003 60301 1 g w 3 55 ((s.1).Rows) p7 ∧ e 4 = .int .i64 (s.2)) ⟨g8, hfr, rfl, q1, rfl, b2, d9, rfl, b8, vE, rfl⟩ (fun X89 rE xE => ?_)
  rintro ⟨t5, o0⟩ mG qH ⟨cC, hfr, a9, n8, u9, y9, u2_1_90, z9, bA, u3_1_90, l8⟩ h
  refine E_joinC h (fun (s : Unit) e w => ∃ (g : Gh) , Fr gI wI g w ∧ e 1 = p1 ∧ PT g.m w (x0 : Loom) p1 ∧ e 2 = p2 ∧ OB 2002 g w 55 ((⟨0, []⟩ : Design) : Design) p2 ∧ OSF 2002 60201 1 g w 3 55 (((⟨0, []⟩ : Design)).Rows) p2 ∧ e 3 = p7 ∧ OB 2003 g w 55 (t5 : Design) p7 ∧ OSF 2003 60301 1 g w 3 55 ((t5).Rows) p7 ∧ e 4 = .int .i64 (o0)) (fun X101 qC iE h => ?_) ?_
  ·obtain ⟨y6, hx, h⟩ := bsome h
   refine E_join (fun e w => ∃ (g : Gh) , Fr gI wI g w ∧ e 1 = p1 ∧ PT g.m w (x0 : Loom) p1 ∧ e 2 = p2 ∧ OB 2002 g w 55 ((⟨0, []⟩ : Design) : Design) p2 ∧ OSF 2002 60201 1 g w 3 55 (((⟨0, []⟩ : Design)).Rows) p2 ∧ e 3 = p7 ∧ OB 2003 g w 55 (t5 : Design) p7 ∧ OSF 2003 60301 1 g w 3 55 ((t5).Rows) p7 ∧ e 4 = .int .i64 (o0) ∧ e 24 = .bool (y6)) (fun Q' hQ => ?_) (fun gG sG hR => ?_)
   ·replace h := hx
    clear hx
    refine E_region (EL_mv l8 rfl ?_)
    refine EL_in (.bool ((o0 == (0 : Int)))) rfl rfl rfl rfl ?_
    refine EL_mw (.bool ((o0 == (0 : Int)))) rfl rfl ?_
    rcases csome h with ⟨u3, h⟩ | ⟨u3, h⟩
    ·refine EL_s rfl rfl u3 rfl rfl ?_
     iterate 5 refine EL_s rfl rfl u3 rfl rfl ?_
     refine EL_skip (.off rfl rfl) rfl ?_
     refine EL_skip (.off rfl rfl) rfl ?_
     refine EL_s rfl rfl u3 rfl rfl ?_
     refine EL_p (.bool true) (P_pick (b := (o0 == (0 : Int))) rfl (pick_t u3 rfl)) rfl ?_
     refine EL_nil ?_
     obtain rfl := sinj h
     exact hQ _ _ ⟨cC, hfr, a9, n8, u9, y9, u2_1_90, z9, bA, u3_1_90, l8, rfl⟩
    ·refine EL_y (.int .i64 (o0)) (P_move l8) rfl rfl u3 rfl ?_
     refine EL_y (fPtr p1 2) (P_fieldAddr at_50_2 a9 (PT.ptr n8)) rfl rfl u3 rfl ?_
     have yE := PT_field (part_Loom_2).1 n8
     refine EL_do (.yes2 rfl rfl u3) rfl (D_load (g := cC) Tryd.isAgg48 Tryd.sizeOf48 rfl yE fun xG zE => ?_)
     refine EL_y (.int .i64 (((x0).Rows).length : Int)) (P_len Tryd.underlying48 rfl zE) rfl rfl u3 rfl ?_
     refine EL_y (.bool ((decide (o0 < (((x0).Rows).length : Int))))) (P_int rfl rfl rfl) rfl rfl u3 rfl ?_
     refine EL_y (.bool ((decide (o0 < (((x0).Rows).length : Int))))) (P_move rfl) rfl rfl u3 rfl ?_
     rcases csome h with ⟨m7, h⟩ | ⟨m7, h⟩
     ·refine EL_y (.int .i64 (o0)) (P_move l8) rfl rfl m7 rfl ?_
      refine EL_y (.bool ((decide (o0 < (10 : Int))))) (P_int rfl rfl rfl) rfl rfl m7 rfl ?_
      refine EL_y (.bool ((decide (o0 < (10 : Int))))) (P_pick (b := (decide (o0 < (((x0).Rows).length : Int)))) rfl (pick_t m7 rfl)) rfl rfl u3 rfl ?_
      refine EL_p (.bool ((decide (o0 < (10 : Int))))) (P_pick (b := (o0 == (0 : Int))) rfl (pick_f u3 rfl)) rfl ?_
      refine EL_nil ?_
      obtain rfl := sinj h
      exact hQ _ _ ⟨cC, hfr, a9, n8, u9, y9, u2_1_90, z9, bA, u3_1_90, l8, rfl⟩
     ·refine EL_s rfl rfl m7 rfl rfl ?_
      refine EL_s rfl rfl m7 rfl rfl ?_
      refine EL_y (.bool false) (P_pick (b := (decide (o0 < (((x0).Rows).length : Int)))) rfl (pick_f m7 rfl)) rfl rfl u3 rfl ?_
      refine EL_p (.bool false) (P_pick (b := (o0 == (0 : Int))) rfl (pick_f u3 rfl)) rfl ?_
      refine EL_nil ?_
      obtain rfl := sinj h
      exact hQ _ _ ⟨cC, hfr, a9, n8, u9, y9, u2_1_90, z9, bA, u3_1_90, l8, rfl⟩
   ·clear hx
    obtain ⟨rC, hfr, uC, vC, yA, aB, u2_1_110, dB, iB, u3_1_110, aD, l9⟩ := hR
    rcases csome h with ⟨iA, h⟩ | ⟨iA, h⟩
    ·refine E_cond_true (Eq.trans (show ev _ _ = .bool (y6) from l9) (congrArg Value.bool iA)) ?_
     exact E_skip (thn_n (iE () _ _ ⟨rC, hfr, uC, vC, yA, aB, u2_1_110, dB, iB, u3_1_110, aD⟩ h))
    ·refine E_cond_false (Eq.trans (show ev _ _ = .bool (y6) from l9) (congrArg Value.bool iA)) ?_
     refine E_exit ?_
     refine thn_e ?_
     refine thn_e ?_
     refine blk_hit ?_
     obtain rfl := sinj h
     exact hQ _ _ ⟨rC, hfr, yA, aB, u2_1_110, dB, iB, u3_1_110⟩
  ·rintro _ hG yG ⟨k9, hfr, r8, i7, lB, mB, u2_1_112, nB, oB, u3_1_112, v8⟩ h
   obtain ⟨k8, hx, h⟩ := bsome h
   refine E_join (fun e w => ∃ (g : Gh) , Fr gI wI g w ∧ e 1 = p1 ∧ PT g.m w (x0 : Loom) p1 ∧ e 2 = p2 ∧ OB 2002 g w 55 ((⟨0, []⟩ : Design) : Design) p2 ∧ OSF 2002 60201 1 g w 3 55 (((⟨0, []⟩ : Design)).Rows) p2 ∧ e 3 = p7 ∧ OB 2003 g w 55 (k8 : Design) p7 ∧ OSF 2003 60301 1 g w 3 55 ((k8).Rows) p7 ∧ e 4 = .int .i64 (o0)) (fun Q' hQ => ?_) (fun iG zG hR => ?_)
   ·replace h := hx
    clear hx
    refine E_block ?_
    refine E_seq (E_region (EL_at (.int .i64 (21)) rfl rfl ?_))
    refine EL_nil (thn_n ?_)
    obtain ⟨x6, hx, h⟩ := bsome h
    refine E_join (fun e w => ∃ (g : Gh) , Fr gI wI g w ∧ e 1 = p1 ∧ PT g.m w (x0 : Loom) p1 ∧ e 2 = p2 ∧ OB 2002 g w 55 ((⟨0, []⟩ : Design) : Design) p2 ∧ OSF 2002 60201 1 g w 3 55 (((⟨0, []⟩ : Design)).Rows) p2 ∧ e 3 = p7 ∧ OB 2003 g w 55 (t5 : Design) p7 ∧ OSF 2003 60301 1 g w 3 55 ((t5).Rows) p7 ∧ e 4 = .int .i64 (o0) ∧ e 5 = .int .i64 (x6)) (fun Q' hQ => ?_) (fun jG aH hR => ?_)
    ·replace h := hx
     clear hx
     refine E_seq (E_region (EL_mv v8 rfl ?_))
     refine EL_p (fPtr p1 2) (P_fieldAddr at_50_2 r8 (PT.ptr i7)) rfl ?_
     have cF := PT_field (part_Loom_2).1 i7
     refine EL_do .plain rfl (D_load (g := k9) Tryd.isAgg48 Tryd.sizeOf48 rfl cF fun cH dF => ?_)
     refine EL_p (.int .i64 (((x0).Rows).length : Int)) (P_len Tryd.underlying48 rfl dF) rfl ?_
     refine EL_p (.bool ((decide (o0 < (((x0).Rows).length : Int))))) (P_int rfl rfl rfl) rfl ?_
     refine EL_nil (thn_n ?_)
     rcases csome h with ⟨rA, h⟩ | ⟨rA, h⟩
     ·refine E_ct rA rfl ?_
      refine E_region (EL_p (fPtr p1 2) (P_fieldAddr at_50_2 r8 (PT.ptr i7)) rfl ?_)
      have eF := PT_field (part_Loom_2).1 i7
      refine EL_do .plain rfl (D_load (g := k9) Tryd.isAgg48 Tryd.sizeOf48 rfl eF fun rF bD => ?_)
      refine EL_mv v8 rfl ?_
      obtain ⟨n9, mC, h⟩ := bsome h
      refine EL_p (ePtr rF o0 1) (P_indexAddr (α := UInt16) Tryd.underlying48 Tryd.sizeOf125 rfl bD rfl mC) rfl ?_
      have sF := PT_idx bD mC
      refine EL_do .plain rfl (D_load (g := k9) Tryd.isAgg125 Tryd.sizeOf125 rfl sF fun dH tF => ?_)
      obtain rfl := RV_u16.1 tF
      refine EL_p (.int .i64 (((n9).toNat : Int))) (P_u16int Tryd.underlying125 Tryd.underlying3 rfl) rfl ?_
      refine EL_at (.int .i64 (((n9).toNat : Int))) rfl rfl ?_
      refine EL_nil ?_
      obtain rfl := sinj h
      exact hQ _ _ ⟨k9, hfr, r8, i7, lB, mB, u2_1_112, nB, oB, u3_1_112, v8, rfl⟩
     ·refine E_cf rA rfl ?_
      refine E_skip ?_
      obtain rfl := sinj h
      exact hQ _ _ ⟨k9, hfr, r8, i7, lB, mB, u2_1_112, nB, oB, u3_1_112, v8, rfl⟩
    ·clear hx
     obtain ⟨yB, hfr, cD, x5, eD, i6, u2_1_156, x8, l5, u3_1_156, gD, iD⟩ := hR
     refine E_region (EL_p (fPtr p7 1) (P_fieldAddr at_55_1 x8 (OB.ptr l5)) rfl ?_)
     refine EL_do .plain rfl (D_loadFS (g := yB) part_Design_1.1 Tryd.isAgg34 Tryd.sizeOf34 rfl l5 u3_1_156 fun gH zB o158 => ?_)
     refine EL_mv iD rfl ?_
     refine EL_p (fPtr p7 0) (P_fieldAddr at_55_0 x8 (OB.ptr l5)) rfl ?_
     refine EL_do .plain rfl (D_loadF (g := yB) part_Design_0.1 Tryd.isAgg3 Tryd.sizeOf3 rfl l5 fun iH uF => ?_)
     obtain rfl := RV_int.1 uF
     refine EL_p (.int .u64 (wu64 (t5).Hooks)) (P_intu64 Tryd.underlying3 Tryd.underlying75 rfl) rfl ?_
     obtain ⟨y161, lE, h⟩ := bsome h
     refine EL_p (.int .i64 (y161)) (P_shlu rfl rfl lE) rfl ?_
     refine EL_in (.int .i64 ((w64 (y161 - (1 : Int))))) rfl rfl rfl rfl ?_
     refine EL_in (.int .i64 ((bit64 .and x6 (w64 (y161 - (1 : Int)))))) rfl rfl rfl rfl ?_
     refine EL_do .plain rfl (D_buildSlice (g := yB) 3047 (xs := ([(bit64 .and x6 (w64 (y161 - (1 : Int))))] : List Int)) (vs := [.int .i64 ((bit64 .and x6 (w64 (y161 - (1 : Int)))))]) Tryd.underlying34 Tryd.sizeOf3 Tryd.zeroValue3 rfl rfl (.cons rfl .nil) (RVs.cons (RV_int.2 rfl) RVs.nil) rfl rfl fun vF jH kH hs o162 xF hxt hfl => ?_)
     have hfr := hfr.stp hs
     have x5 := x5.stp hs
     have u2_1_156 := u2_1_156.stp hs rfl
     have i6 := i6.stp hs rfl
     have l5 := l5.stp hs rfl
     have zB := zB.stp hs
     have o158 := o158.stp hs rfl
     obtain ⟨vB, mE, h⟩ := bsome h
     refine EL_do .plain rfl (D_append (g := vF) (i := 60301) Tryd.underlying34 info_3 rfl rfl o158 zB rfl xF mE fun yF lH mH hs o163 jD _ => ?_)
     have hfr := hfr.stp hs
     have x5 := x5.stp hs
     have u2_1_156 := u2_1_156.stp hs rfl
     have i6 := i6.stp hs rfl
     have l5 := l5.stp hs rfl
     refine EL_p (fPtr p7 1) (P_fieldAddr at_55_1 x8 (OB.ptr l5)) rfl ?_
     refine EL_do .plain rfl (D_storeFc (g := yF) part_Design_1 Tryd.sizeOf34 rfl l5 rfl jD fun zF nH hs b166 rst hos => ?_)
     have lD := hos _ _ 60301 3 (vB : List Int) (rv_cells1 jD) rfl o163
     clear rst hos
     have hfr := hfr.stp hs
     have x5 := x5.stp hs
     have u2_1_156 := u2_1_156.stp hs rfl
     have i6 := i6.stp hs rfl
     refine EL_nil (blk_n ?_)
     obtain rfl := sinj h
     exact hQ _ _ ⟨zF, hfr, cD, x5, eD, i6, u2_1_156, x8, b166, lD, gD⟩
   ·clear hx
    obtain ⟨aG, hfr, nD, oD, sD, tD, u2_1_167, uD, vD, u3_1_167, xD⟩ := hR
    refine E_region (EL_mv xD rfl ?_)
    refine EL_in (.int .i64 ((w64 (o0 + (1 : Int))))) rfl rfl rfl rfl ?_
    refine EL_at (.int .i64 ((w64 (o0 + (1 : Int))))) rfl rfl ?_
    exact EL_nil (thn_n (xE (k8, (w64 (o0 + (1 : Int)))) _ _ ⟨aG, hfr, nD, oD, sD, tD, u2_1_167, uD, vD, u3_1_167, rfl⟩ h))
 ·clear hx
  obtain ⟨yD, hfr, tB, zD, u2_1_168, aE, bE, u3_1_168⟩ := hR
  refine E_seq (E_region (EL_do .plain rfl (D_loadO (g := yD) Tryd.isAgg55 Tryd.sizeOf55 aE bE fun bG cG => ?_)))
  refine EL_do .plain rfl (D_storeOc (g := yD) (v := bG) Tryd.sizeOf55 tB zD rfl cG fun oH pH hs b170 cb => ?_)
  clear cb
  have hfr := hfr.stp hs
  refine EL_nil (thn_n (E_ret ?_))
  obtain rfl := sinj h
  obtain ⟨ad171, cv171, hp171, oE, cr171⟩ := ob_read Tryd.isAgg55 Tryd.sizeOf55 b170
  exact endm_c rfl rfl ((show _ = p2 from tB).trans hp171) oE ⟨_, hfr, cr171⟩
def f19 (x0 : List Str) : Option ((List Str)) :=
 (apnd 16 (([] : List Str)) x0).bind fun y3 =>
 some (y3)
theorem en19 : Enters Tryd.prog 19 := enters_of Tryd.func19 (by kernel_rfl) rfl
theorem wk19 {gI : Gh} {wI : World} {x0 : List Str} {up0 : Value} (rp0 : RV gI.m wI x0 up0) {r : (List Str)} (h : f19 x0 = some r) : Fn Tryd.prog 19 #[up0] gI wI (fun m w v => RV m w (r) v) := by
 unfold f19 at h
 refine fn_of_E Tryd.func19 rfl (Nat.le_of_ble_eq_true rfl) fun g0 hm hfr => ?_
 have rp0 : RV g0.m wI x0 up0 := hm ▸ rp0
 show E _ 6 none _ _ _ _ _
 refine E_seq (E_region (EL_at (.slice none 0 0) rfl rfl ?_))
 refine EL_nil (thn_n (E_seq (E_region (EL_do .plain rfl (D_buildSlice (g := g0) 3003 (xs := ([] : List Str)) (vs := []) Tryd.underlying57 Tryd.sizeOf9 Tryd.zeroValue9 rfl rfl .nil RVs.nil rfl rfl fun g1 w1 v1 hs o1 r1 hxt hfl => ?_)))))
 have hfr := hfr.stp hs
 have rp0 := rp0.stp hs
 refine EL_mw up0 rfl rfl ?_
 obtain ⟨y3, hy3, h⟩ := bsome h
 refine EL_do .plain rfl (D_append (g := g1) (i := 3003) Tryd.underlying57 info_9 rfl rfl o1 r1 rfl rp0 hy3 fun g2 w2 v2 hs o2 r2 _ => ?_)
 have hfr := hfr.stp hs
 refine EL_at v2 rfl rfl ?_
 refine EL_nil (thn_n (E_ret ?_))
 obtain rfl := sinj h
 exact end1 rfl rfl (show _ = v2 from rfl) ⟨_, hfr, r2⟩
def f23 (x0 : List Str) (x1 : List Str) : Option (Bool) :=
 jn (σ := Unit) (fun _ =>
  jn (σ := Unit) (fun _ =>
   some (true)
   ) fun k53 =>
  lp (σ := Int) (fun k54 o0 =>
   jn (σ := Unit) (fun _ =>
    jn (σ := Unit) (fun _ =>
     k54 ((w64 (o0 + (1 : Int))))
     ) fun n9 =>
    (idx x0 o0).bind fun x6 =>
    (idx x1 o0).bind fun y6 =>
    bif (!((x6).b == (y6).b)) then
     some (false)
    else
     n9 ()
    ) fun k57 =>
   bif (decide (o0 < ((x0).length : Int))) then
    k57 ()
   else
    k53 ()
   ) big ((0 : Int))
  ) fun k2 =>
 bif (((x0).length : Int) != ((x1).length : Int)) then
  some (false)
 else
  k2 ()
theorem en23 : Enters Tryd.prog 23 := enters_of Tryd.func23 (by kernel_rfl) rfl
theorem wk23 {gI : Gh} {wI : World} {x0 : List Str} {x1 : List Str} {up0 : Value} (rp0 : RV gI.m wI x0 up0) {up1 : Value} (rp1 : RV gI.m wI x1 up1) {r : Bool} (h : f23 x0 x1 = some r) : Fn Tryd.prog 23 #[up0, up1] gI wI (fun _ _ v => v = .bool (r)) := by
 unfold f23 at h
 refine fn_of_E Tryd.func23 rfl (Nat.le_of_ble_eq_true rfl) fun g0 hm hfr => ?_
 have rp0 : RV g0.m wI x0 up0 := hm ▸ rp0
 have rp1 : RV g0.m wI x1 up1 := hm ▸ rp1
 show E _ 26 none _ _ _ _ _
 refine E_seq (E_region (EL_at (.bool false) rfl rfl ?_))
 refine EL_nil (thn_n (E_joinC h (fun (s : Unit) e w => ∃ (g : Gh) , Fr gI wI g w ∧ e 0 = up0 ∧ RV g.m w (x0 : List Str) up0 ∧ e 1 = up1 ∧ RV g.m w (x1 : List Str) up1) (fun X2 k2 hk2 h => ?_) ?_))
 ·refine E_seq (E_region (EL_mw up0 rfl rfl ?_))
  refine EL_p (.int .i64 ((x0).length : Int)) (P_len Tryd.underlying57 rfl rp0) rfl ?_
  refine EL_mw up1 rfl rfl ?_
  refine EL_p (.int .i64 ((x1).length : Int)) (P_len Tryd.underlying57 rfl rp1) rfl ?_
  refine EL_in (.bool ((((x0).length : Int) != ((x1).length : Int)))) rfl rfl rfl rfl ?_
  refine EL_nil (thn_n ?_)
  rcases csome h with ⟨hc3, h⟩ | ⟨hc3, h⟩
  ·refine E_ct hc3 rfl ?_
   refine E_seq (E_region (EL_at (.bool false) rfl rfl ?_))
   refine EL_nil (thn_n (E_ret (thn_r ?_)))
   obtain rfl := sinj h
   exact end1 rfl rfl (show _ = .bool false from rfl) ⟨_, hfr, rfl⟩
  ·refine E_cf hc3 rfl ?_
   exact E_skip (thn_n (hk2 () _ _ ⟨g0, hfr, rfl, rp0, rfl, rp1⟩ h))
 ·rintro _ bD w4 ⟨g4, hfr, y9, z9, bA, iA⟩ h
  refine E_joinC h (fun (s : Unit) e w => ∃ (g : Gh) , Fr gI wI g w) (fun X53 k53 rA h => ?_) ?_
  ·refine E_seq (E_region (EL_at (.int .i64 (0)) rfl rfl ?_))
   refine EL_nil (thn_n (E_block ?_))
   refine E_lp h (fun (s : Int) e w => ∃ (g : Gh) , Fr gI wI g w ∧ e 0 = up0 ∧ RV g.m w (x0 : List Str) up0 ∧ e 1 = up1 ∧ RV g.m w (x1 : List Str) up1 ∧ e 5 = .int .i64 (s)) ⟨g4, hfr, y9, z9, bA, iA, rfl⟩ (fun X54 k54 yA => ?_)
   rintro o0 qC cD ⟨u9, hfr, i7, m7, k9, l9, g8⟩ h
   refine E_joinC h (fun (s : Unit) e w => ∃ (g : Gh) , Fr gI wI g w ∧ e 0 = up0 ∧ RV g.m w (x0 : List Str) up0 ∧ e 1 = up1 ∧ RV g.m w (x1 : List Str) up1 ∧ e 5 = .int .i64 (o0)) (fun X57 k57 aB h => ?_) ?_
   ·refine E_seq (E_region (EL_mv g8 rfl ?_))
    refine EL_mv i7 rfl ?_
    refine EL_p (.int .i64 ((x0).length : Int)) (P_len Tryd.underlying57 rfl m7) rfl ?_
    refine EL_in (.bool ((decide (o0 < ((x0).length : Int))))) rfl rfl rfl rfl ?_
    refine EL_nil (thn_n ?_)
    rcases csome h with ⟨i6, h⟩ | ⟨i6, h⟩
    ·refine E_ct i6 rfl ?_
     exact E_skip (thn_n (aB () _ _ ⟨u9, hfr, i7, m7, k9, l9, g8⟩ h))
    ·refine E_cf i6 rfl ?_
     refine E_exit ?_
     refine thn_e ?_
     refine thn_e ?_
     refine blk_hit ?_
     exact thn_n (rA () _ _ ⟨u9, hfr⟩ h)
   ·rintro _ rC eD ⟨nB, hfr, k8, u3, l8, l5, t5⟩ h
    refine E_joinC h (fun (s : Unit) e w => ∃ (g : Gh) , Fr gI wI g w ∧ e 0 = up0 ∧ RV g.m w (x0 : List Str) up0 ∧ e 1 = up1 ∧ RV g.m w (x1 : List Str) up1 ∧ e 5 = .int .i64 (o0)) (fun X81 n9 dB h => ?_) ?_
    ·refine E_block ?_
     refine E_seq ?_
     obtain ⟨x6, m8, h⟩ := bsome h
     have oB := PT_idx u3 m8
     refine L_load (x := .tmp 19) Tryd.isAgg9 Tryd.sizeOf9 oB fun gD tB iB => ?_
     obtain rfl := RV_str.1 tB
     obtain ⟨y6, n8, h⟩ := bsome h
     have vB := PT_idx l5 n8
     refine L_load (x := .tmp 23) Tryd.isAgg9 Tryd.sizeOf9 vB fun iD yB lB => ?_
     obtain rfl := RV_str.1 yB
     refine E_drawL (g := nB) (n := 9) [] [0, 1, 2, 3, 4, 5, 6, 7, 8] rfl mixed (by kernel_rfl) trivial ?_
     refine L_p up0 rfl rfl (P_move k8) ?_
     refine L_p (.int .i64 (o0)) rfl rfl (P_move t5) ?_
     refine L_p (ePtr up0 o0 1) rfl rfl (P_indexAddr (α := Str) Tryd.underlying57 Tryd.sizeOf9 rfl u3 rfl m8) ?_
     refine L_ld (c := Str.v (x6)) rfl rfl .plain (fun _ _ h => h.ch) iB rfl ?_
     refine L_p up1 rfl rfl (P_move l8) ?_
     refine L_p (.int .i64 (o0)) rfl rfl (P_move t5) ?_
     refine L_p (ePtr up1 o0 1) rfl rfl (P_indexAddr (α := Str) Tryd.underlying57 Tryd.sizeOf9 rfl l5 rfl n8) ?_
     refine L_ld (c := Str.v (y6)) rfl rfl .plain (fun _ _ h => h.ch) lB rfl ?_
     refine L_p (.bool ((!((x6).b == (y6).b)))) rfl rfl (P_str rfl rfl rfl) ?_
     refine L_nl fun zB jD hs => ?_
     have hfr := hfr.ext hs
     have u3 := u3.ext hs
     have l5 := l5.ext hs
     clear hs
     refine EL_nil (thn_n ?_)
     rcases csome h with ⟨x5, h⟩ | ⟨x5, h⟩
     ·refine E_ct x5 rfl ?_
      refine E_seq (E_region (EL_at (.bool false) rfl rfl ?_))
      refine EL_nil (thn_n (E_ret (blk_r ?_)))
      refine thn_r ?_
      refine thn_r ?_
      refine blk_r ?_
      refine thn_r ?_
      obtain rfl := sinj h
      exact end1 rfl rfl (show _ = .bool false from rfl) ⟨_, hfr, rfl⟩
     ·refine E_cf x5 rfl ?_
      exact E_skip (blk_n (thn_n (dB () _ _ ⟨zB, hfr, k8, u3, l8, l5, t5⟩ h)))
    ·rintro _ cC uC ⟨mB, hfr, r8, v8, x8, a9, d9⟩ h
     refine E_region (EL_mv d9 rfl ?_)
     refine EL_in (.int .i64 ((w64 (o0 + (1 : Int))))) rfl rfl rfl rfl ?_
     refine EL_at (.int .i64 ((w64 (o0 + (1 : Int))))) rfl rfl ?_
     exact EL_nil (thn_n (yA ((w64 (o0 + (1 : Int)))) _ _ ⟨mB, hfr, r8, v8, x8, a9, rfl⟩ h))
  ·rintro _ mC vC ⟨aD, hfr⟩ h
   refine E_seq (E_region (EL_at (.bool true) rfl rfl ?_))
   refine EL_nil (thn_n (E_ret ?_))
   obtain rfl := sinj h
   exact end1 rfl rfl (show _ = .bool true from rfl) ⟨_, hfr, rfl⟩
def f26 (x0 : Int) (x1 : List UInt8) : Option ((List Int)) :=
 Option.bind (α := (List Int)) (
  lp (σ := (List Int) × Int) (fun bD (u3, o0) =>
   jn (σ := Unit) (fun _ =>
    Option.bind (α := (List Int)) (
     Option.bind (α := Int) (
      bif (decide (o0 < ((x1).length : Int))) then
       (idx x1 o0).bind fun x6 =>
       (rem64 ((x6).toNat : Int) (16 : Int)).bind fun n9 =>
       bif (n9 == (15 : Int)) then
        some ((-1 : Int))
       else
        bif (decide (((x6).toNat : Int) ≥ (80 : Int))) then
         (rem64 ((x6).toNat : Int) x0).bind fun u9 =>
         some (u9)
        else
         some (o0)
      else
       some (o0)
      ) fun y6 =>
     (apnd 8 u3 (([y6] : List Int))).bind fun cD =>
     some (cD)
     ) fun i7 =>
    bD (i7, (w64 (o0 + (1 : Int))))
    ) fun eD =>
   bif (decide (o0 < x0)) then
    eD ()
   else
    some (u3)
   ) big (([] : List Int), (0 : Int))
  ) fun k8 =>
 some (k8)
theorem en26 : Enters Tryd.prog 26 := enters_of Tryd.func26 (by kernel_rfl) rfl
theorem wk26 {gI : Gh} {wI : World} {x0 : Int} {x1 : List UInt8} {up1 : Value} (rp1 : RV gI.m wI x1 up1) {r : (List Int)} (h : f26 x0 x1 = some r) : Fn Tryd.prog 26 #[.int .i64 (x0), up1] gI wI (fun m w v => RV m w (r) v) := by
 unfold f26 at h
 refine fn_of_E Tryd.func26 rfl (Nat.le_of_ble_eq_true rfl) fun g0 hm hfr => ?_
 have rp1 : RV g0.m wI x1 up1 := hm ▸ rp1
 show E _ 38 none _ _ _ _ _
 refine E_seq (E_region (EL_at (.slice none 0 0) rfl rfl ?_))
 refine EL_nil (thn_n (E_seq (E_region (EL_do .plain rfl (D_buildSlice (g := g0) 3009 (xs := ([] : List Int)) (vs := []) Tryd.underlying34 Tryd.sizeOf3 Tryd.zeroValue3 rfl rfl .nil RVs.nil rfl rfl fun g1 w1 v1 hs o1 r1 hxt hfl => ?_)))))
 have hfr := hfr.stp hs
 have rp1 := rp1.stp hs
 refine EL_at v1 rfl rfl ?_
 refine EL_nil (thn_n ?_)
 obtain ⟨k8, hx, h⟩ := bsome h
 refine E_join (fun e w => ∃ (g : Gh) (v5 : Value), Fr gI wI g w ∧ e 5 = v5 ∧ RV g.m w (k8 : List Int) v5 ∧ OS 3009 g w 3 (k8 : List Int) v5) (fun Q' hQ => ?_) (fun lE vE hR => ?_)
 ·replace h := hx
  clear hx
  refine E_seq (E_region (EL_at (.int .i64 (0)) rfl rfl ?_))
  refine EL_nil (thn_n (E_block ?_))
  refine E_lp h (fun (s : (List Int) × Int) e w => ∃ (g : Gh) (v5 : Value), Fr gI wI g w ∧ e 0 = .int .i64 (x0) ∧ e 1 = up1 ∧ RV g.m w (x1 : List UInt8) up1 ∧ e 5 = v5 ∧ RV g.m w (s.1 : List Int) v5 ∧ OS 3009 g w 3 (s.1 : List Int) v5 ∧ e 6 = .int .i64 (s.2)) ⟨g1, (v1), hfr, rfl, rfl, rp1, rfl, r1, o1, rfl⟩ (fun X49 bD jD => ?_)
  rintro ⟨u3, o0⟩ mE xE ⟨gD, l5, hfr, y9, dB, iB, z9, bA, iA, rA⟩ h
  refine E_joinC h (fun (s : Unit) e w => ∃ (g : Gh) , Fr gI wI g w ∧ e 0 = .int .i64 (x0) ∧ e 1 = up1 ∧ RV g.m w (x1 : List UInt8) up1 ∧ e 5 = l5 ∧ RV g.m w (u3 : List Int) l5 ∧ OS 3009 g w 3 (u3 : List Int) l5 ∧ e 6 = .int .i64 (o0)) (fun X52 eD lD h => ?_) ?_
  ·refine E_seq (E_region (EL_mv rA rfl ?_))
   refine EL_mv y9 rfl ?_
   refine EL_in (.bool ((decide (o0 < x0)))) rfl rfl rfl rfl ?_
   refine EL_nil (thn_n ?_)
   rcases csome h with ⟨a9, h⟩ | ⟨a9, h⟩
   ·refine E_ct a9 rfl ?_
    exact E_skip (thn_n (lD () _ _ ⟨gD, hfr, y9, dB, iB, z9, bA, iA, rA⟩ h))
   ·refine E_cf a9 rfl ?_
    refine E_exit ?_
    refine thn_e ?_
    refine thn_e ?_
    refine blk_hit ?_
    obtain rfl := sinj h
    exact hQ _ _ ⟨gD, (l5), hfr, z9, bA, iA⟩
  ·rintro _ oE yE ⟨x8, hfr, m7, i6, t5, l8, m8, n8, x5⟩ h
   obtain ⟨i7, hx, h⟩ := bsome h
   refine E_join (fun e w => ∃ (g : Gh) (v5 : Value), Fr gI wI g w ∧ e 0 = .int .i64 (x0) ∧ e 1 = up1 ∧ RV g.m w (x1 : List UInt8) up1 ∧ e 5 = v5 ∧ RV g.m w (i7 : List Int) v5 ∧ OS 3009 g w 3 (i7 : List Int) v5 ∧ e 6 = .int .i64 (o0)) (fun Q' hQ => ?_) (fun rE zE hR => ?_)
   ·replace h := hx
    clear hx
    refine E_block ?_
    refine E_seq (E_region (EL_mv x5 rfl ?_))
    refine EL_at (.int .i64 (o0)) rfl rfl ?_
    refine EL_nil (thn_n ?_)
    obtain ⟨y6, hx, h⟩ := bsome h
    refine E_join (fun e w => ∃ (g : Gh) , Fr gI wI g w ∧ e 0 = .int .i64 (x0) ∧ e 1 = up1 ∧ RV g.m w (x1 : List UInt8) up1 ∧ e 5 = l5 ∧ RV g.m w (u3 : List Int) l5 ∧ OS 3009 g w 3 (u3 : List Int) l5 ∧ e 6 = .int .i64 (o0) ∧ e 7 = .int .i64 (y6)) (fun Q' hQ => ?_) (fun uE cF hR => ?_)
    ·replace h := hx
     clear hx
     refine E_seq (E_region (EL_mv x5 rfl ?_))
     refine EL_mv i6 rfl ?_
     refine EL_p (.int .i64 ((x1).length : Int)) (P_len Tryd.underlying47 rfl t5) rfl ?_
     refine EL_in (.bool ((decide (o0 < ((x1).length : Int))))) rfl rfl rfl rfl ?_
     refine EL_nil (thn_n ?_)
     rcases csome h with ⟨d9, h⟩ | ⟨d9, h⟩
     ·refine E_ct d9 rfl ?_
      refine E_seq (E_region (EL_mv i6 rfl ?_))
      refine EL_mv x5 rfl ?_
      obtain ⟨x6, aB, h⟩ := bsome h
      refine EL_p (ePtr up1 o0 1) (P_indexAddr (α := UInt8) Tryd.underlying47 Tryd.sizeOf5 rfl t5 rfl aB) rfl ?_
      have tD := PT_idx t5 aB
      refine EL_do .plain rfl (D_load (g := x8) Tryd.isAgg5 Tryd.sizeOf5 rfl tD fun dF uD => ?_)
      obtain rfl := RV_u8.1 uD
      refine EL_p (.int .i64 (((x6).toNat : Int))) (P_u8int Tryd.underlying5 Tryd.underlying3 rfl) rfl ?_
      refine EL_at (.int .i64 (((x6).toNat : Int))) rfl rfl ?_
      refine EL_nil (thn_n (E_seq (E_region (EL_mw (.int .i64 (((x6).toNat : Int))) rfl rfl ?_))))
      obtain ⟨n9, nD, h⟩ := bsome h
      refine EL_p (.int .i64 (n9)) (P_int rfl rfl (congrArg (Option.map (Value.int .i64)) nD)) rfl ?_
      refine EL_in (.bool ((n9 == (15 : Int)))) rfl rfl rfl rfl ?_
      refine EL_nil (thn_n ?_)
      rcases csome h with ⟨k9, h⟩ | ⟨k9, h⟩
      ·refine E_ct k9 rfl ?_
       refine E_region (EL_at (.int .i64 (-1)) rfl rfl ?_)
       refine EL_nil ?_
       obtain rfl := sinj h
       exact hQ _ _ ⟨x8, hfr, m7, i6, t5, l8, m8, n8, x5, rfl⟩
      ·refine E_cf k9 rfl ?_
       refine E_seq (E_region (EL_mw (.int .i64 (((x6).toNat : Int))) rfl rfl ?_))
       refine EL_in (.bool ((decide (((x6).toNat : Int) ≥ (80 : Int))))) rfl rfl rfl rfl ?_
       refine EL_nil (thn_n ?_)
       rcases csome h with ⟨l9, h⟩ | ⟨l9, h⟩
       ·refine E_ct l9 rfl ?_
        refine E_region (EL_mw (.int .i64 (((x6).toNat : Int))) rfl rfl ?_)
        refine EL_mv m7 rfl ?_
        obtain ⟨u9, oD, h⟩ := bsome h
        refine EL_p (.int .i64 (u9)) (P_int rfl rfl (congrArg (Option.map (Value.int .i64)) oD)) rfl ?_
        refine EL_at (.int .i64 (u9)) rfl rfl ?_
        refine EL_nil ?_
        obtain rfl := sinj h
        exact hQ _ _ ⟨x8, hfr, m7, i6, t5, l8, m8, n8, x5, rfl⟩
       ·refine E_cf l9 rfl ?_
        refine E_skip ?_
        obtain rfl := sinj h
        exact hQ _ _ ⟨x8, hfr, m7, i6, t5, l8, m8, n8, x5, rfl⟩
     ·refine E_cf d9 rfl ?_
      refine E_skip ?_
      obtain rfl := sinj h
      exact hQ _ _ ⟨x8, hfr, m7, i6, t5, l8, m8, n8, x5, rfl⟩
    ·clear hx
     obtain ⟨vD, hfr, lB, mB, g8, nB, r8, v8, oB, tB⟩ := hR
     refine E_region (EL_mv nB rfl ?_)
     refine EL_mv tB rfl ?_
     refine EL_do .plain rfl (D_buildSlice (g := vD) 3035 (xs := ([y6] : List Int)) (vs := [.int .i64 (y6)]) Tryd.underlying34 Tryd.sizeOf3 Tryd.zeroValue3 rfl rfl (.cons rfl .nil) (RVs.cons (RV_int.2 rfl) RVs.nil) rfl rfl fun xD eF rF hs o93 yD hxt hfl => ?_)
     have hfr := hfr.stp hs
     have g8 := g8.stp hs
     have r8 := r8.stp hs
     have v8 := v8.stp hs rfl
     obtain ⟨cD, sD, h⟩ := bsome h
     refine EL_do .plain rfl (D_append (g := xD) (i := 3009) Tryd.underlying34 info_3 rfl rfl v8 r8 rfl yD sD fun zD sF iD hs o94 aE _ => ?_)
     have hfr := hfr.stp hs
     have g8 := g8.stp hs
     refine EL_at iD rfl rfl ?_
     refine EL_nil (blk_n ?_)
     obtain rfl := sinj h
     exact hQ _ _ ⟨zD, (iD), hfr, lB, mB, g8, rfl, aE, o94, oB⟩
   ·clear hx
    obtain ⟨bE, vB, hfr, yB, zB, cC, mC, qC, rC, uC⟩ := hR
    refine E_region (EL_mv uC rfl ?_)
    refine EL_in (.int .i64 ((w64 (o0 + (1 : Int))))) rfl rfl rfl rfl ?_
    refine EL_at (.int .i64 ((w64 (o0 + (1 : Int))))) rfl rfl ?_
    exact EL_nil (thn_n (jD (i7, (w64 (o0 + (1 : Int)))) _ _ ⟨bE, (vB), hfr, yB, zB, cC, mC, qC, rC, rfl⟩ h))
 ·clear hx
  obtain ⟨tF, yA, hfr, vC, aD, iE⟩ := hR
  refine E_seq (E_region (EL_mv vC rfl ?_))
  refine EL_at yA rfl rfl ?_
  refine EL_nil (thn_n (E_ret ?_))
  obtain rfl := sinj h
  exact end1 rfl rfl (show _ = yA from rfl) ⟨_, hfr, aD⟩
def f28 (x0 : List Int) : Option ((List Int)) :=
 (apnd 8 (([] : List Int)) x0).bind fun y3 =>
 some (y3)
theorem en28 : Enters Tryd.prog 28 := enters_of Tryd.func28 (by kernel_rfl) rfl
theorem wk28 {gI : Gh} {wI : World} {x0 : List Int} {up0 : Value} (rp0 : RV gI.m wI x0 up0) {r : (List Int)} (h : f28 x0 = some r) : Fn Tryd.prog 28 #[up0] gI wI (fun m w v => RV m w (r) v) := by
 unfold f28 at h
 refine fn_of_E Tryd.func28 rfl (Nat.le_of_ble_eq_true rfl) fun g0 hm hfr => ?_
 have rp0 : RV g0.m wI x0 up0 := hm ▸ rp0
 show E _ 6 none _ _ _ _ _
 refine E_seq (E_region (EL_at (.slice none 0 0) rfl rfl ?_))
 refine EL_nil (thn_n (E_seq (E_region (EL_do .plain rfl (D_buildSlice (g := g0) 3003 (xs := ([] : List Int)) (vs := []) Tryd.underlying34 Tryd.sizeOf3 Tryd.zeroValue3 rfl rfl .nil RVs.nil rfl rfl fun g1 w1 v1 hs o1 r1 hxt hfl => ?_)))))
 have hfr := hfr.stp hs
 have rp0 := rp0.stp hs
 refine EL_mw up0 rfl rfl ?_
 obtain ⟨y3, hy3, h⟩ := bsome h
 refine EL_do .plain rfl (D_append (g := g1) (i := 3003) Tryd.underlying34 info_3 rfl rfl o1 r1 rfl rp0 hy3 fun g2 w2 v2 hs o2 r2 _ => ?_)
 have hfr := hfr.stp hs
 refine EL_at v2 rfl rfl ?_
 refine EL_nil (thn_n (E_ret ?_))
 obtain rfl := sinj h
 exact end1 rfl rfl (show _ = v2 from rfl) ⟨_, hfr, r2⟩
def f35 (x0 : List Int) (x1 : List Int) : Option (Bool) :=
 jn (σ := Unit) (fun _ =>
  jn (σ := Unit) (fun _ =>
   some (true)
   ) fun k53 =>
  lp (σ := Int) (fun k54 o0 =>
   jn (σ := Unit) (fun _ =>
    jn (σ := Unit) (fun _ =>
     k54 ((w64 (o0 + (1 : Int))))
     ) fun n9 =>
    (idx x0 o0).bind fun x6 =>
    (idx x1 o0).bind fun y6 =>
    bif (x6 != y6) then
     some (false)
    else
     n9 ()
    ) fun k57 =>
   bif (decide (o0 < ((x0).length : Int))) then
    k57 ()
   else
    k53 ()
   ) big ((0 : Int))
  ) fun k2 =>
 bif (((x0).length : Int) != ((x1).length : Int)) then
  some (false)
 else
  k2 ()
theorem en35 : Enters Tryd.prog 35 := enters_of Tryd.func35 (by kernel_rfl) rfl
theorem wk35 {gI : Gh} {wI : World} {x0 : List Int} {x1 : List Int} {up0 : Value} (rp0 : RV gI.m wI x0 up0) {up1 : Value} (rp1 : RV gI.m wI x1 up1) {r : Bool} (h : f35 x0 x1 = some r) : Fn Tryd.prog 35 #[up0, up1] gI wI (fun _ _ v => v = .bool (r)) := by
 unfold f35 at h
 refine fn_of_E Tryd.func35 rfl (Nat.le_of_ble_eq_true rfl) fun g0 hm hfr => ?_
 have rp0 : RV g0.m wI x0 up0 := hm ▸ rp0
 have rp1 : RV g0.m wI x1 up1 := hm ▸ rp1
 show E _ 26 none _ _ _ _ _
 refine E_seq (E_region (EL_at (.bool false) rfl rfl ?_))
 refine EL_nil (thn_n (E_joinC h (fun (s : Unit) e w => ∃ (g : Gh) , Fr gI wI g w ∧ e 0 = up0 ∧ RV g.m w (x0 : List Int) up0 ∧ e 1 = up1 ∧ RV g.m w (x1 : List Int) up1) (fun X2 k2 hk2 h => ?_) ?_))
 ·refine E_seq (E_region (EL_mw up0 rfl rfl ?_))
  refine EL_p (.int .i64 ((x0).length : Int)) (P_len Tryd.underlying34 rfl rp0) rfl ?_
  refine EL_mw up1 rfl rfl ?_
  refine EL_p (.int .i64 ((x1).length : Int)) (P_len Tryd.underlying34 rfl rp1) rfl ?_
  refine EL_in (.bool ((((x0).length : Int) != ((x1).length : Int)))) rfl rfl rfl rfl ?_
  refine EL_nil (thn_n ?_)
  rcases csome h with ⟨hc3, h⟩ | ⟨hc3, h⟩
  ·refine E_ct hc3 rfl ?_
   refine E_seq (E_region (EL_at (.bool false) rfl rfl ?_))
   refine EL_nil (thn_n (E_ret (thn_r ?_)))
   obtain rfl := sinj h
   exact end1 rfl rfl (show _ = .bool false from rfl) ⟨_, hfr, rfl⟩
  ·refine E_cf hc3 rfl ?_
   exact E_skip (thn_n (hk2 () _ _ ⟨g0, hfr, rfl, rp0, rfl, rp1⟩ h))
 ·rintro _ bD w4 ⟨g4, hfr, y9, z9, bA, iA⟩ h
  refine E_joinC h (fun (s : Unit) e w => ∃ (g : Gh) , Fr gI wI g w) (fun X53 k53 rA h => ?_) ?_
  ·refine E_seq (E_region (EL_at (.int .i64 (0)) rfl rfl ?_))
   refine EL_nil (thn_n (E_block ?_))
   refine E_lp h (fun (s : Int) e w => ∃ (g : Gh) , Fr gI wI g w ∧ e 0 = up0 ∧ RV g.m w (x0 : List Int) up0 ∧ e 1 = up1 ∧ RV g.m w (x1 : List Int) up1 ∧ e 5 = .int .i64 (s)) ⟨g4, hfr, y9, z9, bA, iA, rfl⟩ (fun X54 k54 yA => ?_)
   rintro o0 qC cD ⟨u9, hfr, i7, m7, k9, l9, g8⟩ h
   refine E_joinC h (fun (s : Unit) e w => ∃ (g : Gh) , Fr gI wI g w ∧ e 0 = up0 ∧ RV g.m w (x0 : List Int) up0 ∧ e 1 = up1 ∧ RV g.m w (x1 : List Int) up1 ∧ e 5 = .int .i64 (o0)) (fun X57 k57 aB h => ?_) ?_
   ·refine E_seq (E_region (EL_mv g8 rfl ?_))
    refine EL_mv i7 rfl ?_
    refine EL_p (.int .i64 ((x0).length : Int)) (P_len Tryd.underlying34 rfl m7) rfl ?_
    refine EL_in (.bool ((decide (o0 < ((x0).length : Int))))) rfl rfl rfl rfl ?_
    refine EL_nil (thn_n ?_)
    rcases csome h with ⟨i6, h⟩ | ⟨i6, h⟩
    ·refine E_ct i6 rfl ?_
     exact E_skip (thn_n (aB () _ _ ⟨u9, hfr, i7, m7, k9, l9, g8⟩ h))
    ·refine E_cf i6 rfl ?_
     refine E_exit ?_
     refine thn_e ?_
     refine thn_e ?_
     refine blk_hit ?_
     exact thn_n (rA () _ _ ⟨u9, hfr⟩ h)
   ·rintro _ rC eD ⟨nB, hfr, k8, u3, l8, l5, t5⟩ h
    refine E_joinC h (fun (s : Unit) e w => ∃ (g : Gh) , Fr gI wI g w ∧ e 0 = up0 ∧ RV g.m w (x0 : List Int) up0 ∧ e 1 = up1 ∧ RV g.m w (x1 : List Int) up1 ∧ e 5 = .int .i64 (o0)) (fun X81 n9 dB h => ?_) ?_
    ·refine E_block ?_
     refine E_seq ?_
     obtain ⟨x6, m8, h⟩ := bsome h
     have oB := PT_idx u3 m8
     refine L_load (x := .tmp 19) Tryd.isAgg3 Tryd.sizeOf3 oB fun gD tB iB => ?_
     obtain rfl := RV_int.1 tB
     obtain ⟨y6, n8, h⟩ := bsome h
     have vB := PT_idx l5 n8
     refine L_load (x := .tmp 23) Tryd.isAgg3 Tryd.sizeOf3 vB fun iD yB lB => ?_
     obtain rfl := RV_int.1 yB
     refine E_drawL (g := nB) (n := 9) [] [0, 1, 2, 3, 4, 5, 6, 7, 8] rfl mixed (by kernel_rfl) trivial ?_
     refine L_p up0 rfl rfl (P_move k8) ?_
     refine L_p (.int .i64 (o0)) rfl rfl (P_move t5) ?_
     refine L_p (ePtr up0 o0 1) rfl rfl (P_indexAddr (α := Int) Tryd.underlying34 Tryd.sizeOf3 rfl u3 rfl m8) ?_
     refine L_ld (c := .int .i64 (x6)) rfl rfl .plain (fun _ _ h => h.ch) iB rfl ?_
     refine L_p up1 rfl rfl (P_move l8) ?_
     refine L_p (.int .i64 (o0)) rfl rfl (P_move t5) ?_
     refine L_p (ePtr up1 o0 1) rfl rfl (P_indexAddr (α := Int) Tryd.underlying34 Tryd.sizeOf3 rfl l5 rfl n8) ?_
     refine L_ld (c := .int .i64 (y6)) rfl rfl .plain (fun _ _ h => h.ch) lB rfl ?_
     refine L_p (.bool ((x6 != y6))) rfl rfl (P_int rfl rfl rfl) ?_
     refine L_nl fun zB jD hs => ?_
     have hfr := hfr.ext hs
     have u3 := u3.ext hs
     have l5 := l5.ext hs
     clear hs
     refine EL_nil (thn_n ?_)
     rcases csome h with ⟨x5, h⟩ | ⟨x5, h⟩
     ·refine E_ct x5 rfl ?_
      refine E_seq (E_region (EL_at (.bool false) rfl rfl ?_))
      refine EL_nil (thn_n (E_ret (blk_r ?_)))
      refine thn_r ?_
      refine thn_r ?_
      refine blk_r ?_
      refine thn_r ?_
      obtain rfl := sinj h
      exact end1 rfl rfl (show _ = .bool false from rfl) ⟨_, hfr, rfl⟩
     ·refine E_cf x5 rfl ?_
      exact E_skip (blk_n (thn_n (dB () _ _ ⟨zB, hfr, k8, u3, l8, l5, t5⟩ h)))
    ·rintro _ cC uC ⟨mB, hfr, r8, v8, x8, a9, d9⟩ h
     refine E_region (EL_mv d9 rfl ?_)
     refine EL_in (.int .i64 ((w64 (o0 + (1 : Int))))) rfl rfl rfl rfl ?_
     refine EL_at (.int .i64 ((w64 (o0 + (1 : Int))))) rfl rfl ?_
     exact EL_nil (thn_n (yA ((w64 (o0 + (1 : Int)))) _ _ ⟨mB, hfr, r8, v8, x8, a9, rfl⟩ h))
  ·rintro _ mC vC ⟨aD, hfr⟩ h
   refine E_seq (E_region (EL_at (.bool true) rfl rfl ?_))
   refine EL_nil (thn_n (E_ret ?_))
   obtain rfl := sinj h
   exact end1 rfl rfl (show _ = .bool true from rfl) ⟨_, hfr, rfl⟩
def f55 (x0 : TieTieHarness) (x1 : List Str) : Option (Design) :=
 Option.bind (α := Design) (
  lp (σ := Design × Int) (fun uE (l5, o0) =>
   bif (decide (o0 < ((x1).length : Int))) then
    Option.bind (α := Design) (
     (idx x1 o0).bind fun u9 =>
     Option.bind (α := Int) (
      lp (σ := Int × Int) (fun vE (y6, u3) =>
       bif (decide (u3 < ((((x0).TieHarness).Warps).length : Int))) then
        Option.bind (α := Int) (
         (idx (((x0).TieHarness).Warps) u3).bind fun yB =>
         (idx (u9).b u3).bind fun zB =>
         bif (zB == (120 : UInt8)) then
          (shl64 (1 : Int) yB).bind fun y9 =>
          some ((bit64 .or y6 y9))
         else
          some (y6)
         ) fun m8 =>
        vE (m8, (w64 (u3 + (1 : Int))))
       else
        some (y6)
       ) big ((0 : Int), (0 : Int))
      ) fun m7 =>
     (apnd 8 ((l5).Rows) (([m7] : List Int))).bind fun iD =>
     some ({ l5 with Rows := iD })
     ) fun k8 =>
    uE (k8, (w64 (o0 + (1 : Int))))
   else
    some (l5)
   ) big ((⟨((x0).TieHarness).Hooks, []⟩ : Design), (0 : Int))
  ) fun n8 =>
 some (n8)
theorem en55 : Enters Tryd.prog 55 := enters_of Tryd.func55 (by kernel_rfl) rfl
theorem wk55 {gI : Gh} {wI : World} {x0 : TieTieHarness} {x1 : List Str} {up0 : Value} (rp0 : RV gI.m wI x0 up0) {up1 : Value} (rp1 : RV gI.m wI x1 up1) {r : Design} (h : f55 x0 x1 = some r) : Fn Tryd.prog 55 #[up0, up1] gI wI (fun m w v => RV m w (r) v) := by
 unfold f55 at h
 refine fn_of_E Tryd.func55 rfl (Nat.le_of_ble_eq_true rfl) fun g0 hm hfr => ?_
 have rp0 : RV g0.m wI x0 up0 := hm ▸ rp0
 have rp1 : RV g0.m wI x1 up1 := hm ▸ rp1
 show E _ 47 none _ _ _ _ _
 refine E_seq (E_region (EL_do .plain rfl (D_box (g := g0) rfl rp0 fun g1 w1 p1 hs q1 => ?_)))
 have hfr := hfr.ext hs
 have rp1 := rp1.ext hs
 refine EL_do .plain rfl (D_allocOc (g := g1) 2004 (⟨0, []⟩ : Design) Tryd.zeroValue55 (fun m w => ⟨_, (rep_two rep_int rep_nil), rfl⟩) fun g2 w2 p2 hs b2 cb => ?_)
 have hfr := hfr.stp hs
 have rp1 := rp1.stp hs
 have q1 := q1.stp hs
 have z9 : OSF 2004 60401 1 g2 w2 3 55 ([] : List Int) p2 := cb.osf (by rfl)
 clear cb
 refine EL_nil (thn_n (E_seq (E_region (EL_p (fPtr p1 0) (P_fieldAddr at_129_0 rfl (PT.ptr q1)) rfl ?_))))
 have q3 := PT_field (part_TieTieHarness_0).1 q1
 refine EL_p (fPtr (fPtr p1 0) 0) (P_fieldAddr at_52_0 rfl (PT.ptr q3)) rfl ?_
 have q4 := PT_field (part_TieHarness_0).1 q3
 refine EL_do .plain rfl (D_load (g := g2) Tryd.isAgg3 Tryd.sizeOf3 rfl q4 fun v5 r5 => ?_)
 obtain rfl := RV_int.1 r5
 have r6 : RV g2.m w2 (⟨((x0).TieHarness).Hooks, []⟩ : Design) (.agg (setCh [[.int .i64 0], [.slice none 0 0]] [(0, .int .i64 (((x0).TieHarness).Hooks))]).flatten.toArray) := RV_build rfl (rep_pair (rfl) (rep_last (rep_nil)))
 generalize gH : (Value.agg (setCh [[.int .i64 0], [.slice none 0 0]] [(0, .int .i64 (((x0).TieHarness).Hooks))]).flatten.toArray) = v6 at r6
 refine EL_p v6 (gH ▸ P_build (vs := [(0, .int .i64 (((x0).TieHarness).Hooks))]) [[.int .i64 0], [.slice none 0 0]] lay_55 rfl rfl (.cons rfl .nil) ⟨⟨_, rfl, rfl⟩, trivial⟩) rfl ?_
 refine EL_do .plain rfl (D_allocOc (g := g2) 2005 (⟨0, []⟩ : Design) Tryd.zeroValue55 (fun m w => ⟨_, (rep_two rep_int rep_nil), rfl⟩) fun g7 w7 p7 hs b7 cb => ?_)
 have hfr := hfr.stp hs
 have rp1 := rp1.stp hs
 have q1 := q1.stp hs
 have z9 := z9.stp hs rfl
 have b2 := b2.stp hs rfl
 have r6 := r6.stp hs
 have kI : OSF 2005 60501 1 g7 w7 3 55 ([] : List Int) p7 := cb.osf (by rfl)
 clear cb
 refine EL_do .plain rfl (D_storeOc (g := g7) (v := v6) Tryd.sizeOf55 rfl b7 rfl r6 fun g8 w8 hs b8 cb => ?_)
 have iH : OSF 2005 60501 1 g8 w8 3 55 ([] : List Int) p7 := cb.osf (by rw [← gH]; rfl)
 clear cb
 have hfr := hfr.stp hs
 have rp1 := rp1.stp hs
 have q1 := q1.stp hs
 have z9 := z9.stp hs rfl
 have b2 := b2.stp hs rfl
 refine EL_nil (thn_n ?_)
 obtain ⟨n8, hx, h⟩ := bsome h
 refine E_join (fun e w => ∃ (g : Gh) , Fr gI wI g w ∧ e 4 = p2 ∧ OB 2004 g w 55 ((⟨0, []⟩ : Design) : Design) p2 ∧ OSF 2004 60401 1 g w 3 55 (((⟨0, []⟩ : Design)).Rows) p2 ∧ e 5 = p7 ∧ OB 2005 g w 55 (n8 : Design) p7 ∧ OSF 2005 60501 1 g w 3 55 ((n8).Rows) p7) (fun Q' hQ => ?_) (fun zH lI hR => ?_)
 ·replace h := hx
  clear hx
  refine E_seq (E_region (EL_mw up1 rfl rfl ?_))
  refine EL_p (.int .i64 ((x1).length : Int)) (P_len Tryd.underlying57 rfl rp1) rfl ?_
  refine EL_mw (.int .i64 (0)) rfl rfl ?_
  refine EL_nil (thn_n (E_block ?_))
  refine E_lp h (fun (s : Design × Int) e w => ∃ (g : Gh) , Fr gI wI g w ∧ e 2 = p1 ∧ PT g.m w (x0 : TieTieHarness) p1 ∧ e 4 = p2 ∧ OB 2004 g w 55 ((⟨0, []⟩ : Design) : Design) p2 ∧ OSF 2004 60401 1 g w 3 55 (((⟨0, []⟩ : Design)).Rows) p2 ∧ e 5 = p7 ∧ OB 2005 g w 55 (s.1 : Design) p7 ∧ OSF 2005 60501 1 g w 3 55 ((s.1).Rows) p7 ∧ e 15 = up1 ∧ RV g.m w (x1 : List Str) up1 ∧ e 16 = .int .i64 (((x1).length : Int)) ∧ e 17 = .int .i64 (s.2)) ⟨g8, hfr, rfl, q1, rfl, b2, z9, rfl, b8, iH, rfl, rp1, rfl, rfl⟩ (fun X112 uE xG => ?_)
  rintro ⟨l5, o0⟩ aI mI ⟨cC, hfr, vC, bA, aD, bD, u4_1_113, cD, eD, u5_1_113, tB, r8, vB, v8⟩ h
  refine E_seq (E_region (EL_in (.bool ((decide (o0 < ((x1).length : Int))))) v8 vB rfl rfl ?_))
  refine EL_nil (thn_n (E_seq ?_))
  rcases csome h with ⟨mC, h⟩ | ⟨mC, h⟩
  ·refine E_ct mC rfl ?_
   refine E_skip (thn_n ?_)
   obtain ⟨k8, hx, h⟩ := bsome h
   refine E_join (fun e w => ∃ (g : Gh) , Fr gI wI g w ∧ e 2 = p1 ∧ PT g.m w (x0 : TieTieHarness) p1 ∧ e 4 = p2 ∧ OB 2004 g w 55 ((⟨0, []⟩ : Design) : Design) p2 ∧ OSF 2004 60401 1 g w 3 55 (((⟨0, []⟩ : Design)).Rows) p2 ∧ e 5 = p7 ∧ OB 2005 g w 55 (k8 : Design) p7 ∧ OSF 2005 60501 1 g w 3 55 ((k8).Rows) p7 ∧ e 15 = up1 ∧ RV g.m w (x1 : List Str) up1 ∧ e 16 = .int .i64 (((x1).length : Int)) ∧ e 17 = .int .i64 (o0)) (fun Q' hQ => ?_) (fun bI nI hR => ?_)
   ·replace h := hx
    clear hx
    refine E_block ?_
    refine E_seq (E_region ?_)
    obtain ⟨u9, lD, h⟩ := bsome h
    refine EL_p (ePtr up1 o0 1) (P_indexAddr (α := Str) Tryd.underlying57 Tryd.sizeOf9 tB r8 v8 lD) rfl ?_
    have jH := PT_idx r8 lD
    refine EL_do .plain rfl (D_load (g := cC) Tryd.isAgg9 Tryd.sizeOf9 rfl jH fun pI kH => ?_)
    obtain rfl := RV_str.1 kH
    refine EL_at (Str.v (u9)) rfl rfl ?_
    refine EL_nil (thn_n (E_seq (E_region (EL_at (.int .i64 (0)) rfl rfl ?_))))
    refine EL_nil (thn_n ?_)
    obtain ⟨m7, hx, h⟩ := bsome h
    refine E_join (fun e w => ∃ (g : Gh) , Fr gI wI g w ∧ e 2 = p1 ∧ PT g.m w (x0 : TieTieHarness) p1 ∧ e 4 = p2 ∧ OB 2004 g w 55 ((⟨0, []⟩ : Design) : Design) p2 ∧ OSF 2004 60401 1 g w 3 55 (((⟨0, []⟩ : Design)).Rows) p2 ∧ e 5 = p7 ∧ OB 2005 g w 55 (l5 : Design) p7 ∧ OSF 2005 60501 1 g w 3 55 ((l5).Rows) p7 ∧ e 8 = .int .i64 (m7) ∧ e 15 = up1 ∧ RV g.m w (x1 : List Str) up1 ∧ e 16 = .int .i64 (((x1).length : Int)) ∧ e 17 = .int .i64 (o0)) (fun Q' hQ => ?_) (fun dI qI hR => ?_)
    ·replace h := hx
     clear hx
     refine E_seq (E_region (EL_p (fPtr p1 0) (P_fieldAddr at_129_0 vC (PT.ptr bA)) rfl ?_))
     have xE := PT_field (part_TieTieHarness_0).1 bA
     refine EL_p (fPtr (fPtr p1 0) 1) (P_fieldAddr at_52_1 rfl (PT.ptr xE)) rfl ?_
     have lH := PT_field (part_TieHarness_1).1 xE
     refine EL_do .plain rfl (D_load (g := cC) Tryd.isAgg34 Tryd.sizeOf34 rfl lH fun iA yE => ?_)
     refine EL_p (.int .i64 ((((x0).TieHarness).Warps).length : Int)) (P_len Tryd.underlying34 rfl yE) rfl ?_
     refine EL_mw (.int .i64 (0)) rfl rfl ?_
     refine EL_nil (thn_n (E_block ?_))
     refine E_lp h (fun (s : Int × Int) e w => ∃ (g : Gh) , Fr gI wI g w ∧ e 2 = p1 ∧ PT g.m w (x0 : TieTieHarness) p1 ∧ e 4 = p2 ∧ OB 2004 g w 55 ((⟨0, []⟩ : Design) : Design) p2 ∧ OSF 2004 60401 1 g w 3 55 (((⟨0, []⟩ : Design)).Rows) p2 ∧ e 5 = p7 ∧ OB 2005 g w 55 (l5 : Design) p7 ∧ OSF 2005 60501 1 g w 3 55 ((l5).Rows) p7 ∧ e 7 = Str.v (u9) ∧ e 8 = .int .i64 (s.1) ∧ e 15 = up1 ∧ RV g.m w (x1 : List Str) up1 ∧ e 16 = .int .i64 (((x1).length : Int)) ∧ e 17 = .int .i64 (o0) ∧ e 23 = iA ∧ RV g.m w (((x0).TieHarness).Warps : List Int) iA ∧ e 24 = .int .i64 (((((x0).TieHarness).Warps).length : Int)) ∧ e 25 = .int .i64 (s.2)) ⟨cC, hfr, vC, bA, aD, bD, u4_1_113, cD, eD, u5_1_113, rfl, rfl, tB, r8, vB, v8, rfl, yE, rfl, rfl⟩ (fun X189 vE yG => ?_)
     rintro ⟨y6, u3⟩ iI sI ⟨qC, hfr, rA, yA, aB, dB, u4_1_190, iB, lB, u5_1_190, mB, nB, x8, a9, d9, k9, l9, l8, n9, i7⟩ h
     refine E_seq (E_region (EL_p (.bool ((decide (u3 < ((((x0).TieHarness).Warps).length : Int))))) (P_int i7 n9 rfl) rfl ?_))
     refine EL_nil (thn_n (E_seq ?_))
     rcases csome h with ⟨rC, h⟩ | ⟨rC, h⟩
     ·refine E_ct rC rfl ?_
      refine E_skip (thn_n ?_)
      obtain ⟨m8, hx, h⟩ := bsome h
      refine E_join (fun e w => ∃ (g : Gh) , Fr gI wI g w ∧ e 2 = p1 ∧ PT g.m w (x0 : TieTieHarness) p1 ∧ e 4 = p2 ∧ OB 2004 g w 55 ((⟨0, []⟩ : Design) : Design) p2 ∧ OSF 2004 60401 1 g w 3 55 (((⟨0, []⟩ : Design)).Rows) p2 ∧ e 5 = p7 ∧ OB 2005 g w 55 (l5 : Design) p7 ∧ OSF 2005 60501 1 g w 3 55 ((l5).Rows) p7 ∧ e 7 = Str.v (u9) ∧ e 8 = .int .i64 (m8) ∧ e 15 = up1 ∧ RV g.m w (x1 : List Str) up1 ∧ e 16 = .int .i64 (((x1).length : Int)) ∧ e 17 = .int .i64 (o0) ∧ e 23 = iA ∧ RV g.m w (((x0).TieHarness).Warps : List Int) iA ∧ e 24 = .int .i64 (((((x0).TieHarness).Warps).length : Int)) ∧ e 25 = .int .i64 (u3)) (fun Q' hQ => ?_) (fun jI tI hR => ?_)
      ·replace h := hx
       clear hx
       refine E_block ?_
       refine E_seq (E_region (EL_mv i7 rfl ?_))
       obtain ⟨yB, nD, h⟩ := bsome h
       refine EL_p (ePtr iA u3 1) (P_indexAddr (α := Int) Tryd.underlying34 Tryd.sizeOf3 l9 l8 i7 nD) rfl ?_
       have mH := PT_idx l8 nD
       refine EL_do .plain rfl (D_load (g := qC) Tryd.isAgg3 Tryd.sizeOf3 rfl mH fun uI nH => ?_)
       obtain rfl := RV_int.1 nH
       refine EL_at (.int .i64 (u3)) rfl rfl ?_
       refine EL_at (.int .i64 (yB)) rfl rfl ?_
       refine EL_nil (thn_n (E_seq (E_region (EL_mv mB rfl ?_))))
       refine EL_mw (.int .i64 (u3)) rfl rfl ?_
       obtain ⟨zB, zG, h⟩ := bsome h
       refine EL_p (.int .u8 (UInt8.toNat (zB))) (P_indexS Tryd.underlying9 rfl rfl zG) rfl ?_
       refine EL_p (.bool ((zB == (120 : UInt8)))) (P_u8 rfl rfl rfl) rfl ?_
       refine EL_nil (thn_n ?_)
       rcases csome h with ⟨uC, h⟩ | ⟨uC, h⟩
       ·refine E_ct uC rfl ?_
        refine E_region (EL_mv nB rfl ?_)
        refine EL_mw (.int .i64 (yB)) rfl rfl ?_
        obtain ⟨y9, aH, h⟩ := bsome h
        refine EL_p (.int .i64 (y9)) (P_int rfl rfl (congrArg (Option.map (Value.int .i64)) aH)) rfl ?_
        refine EL_in (.int .i64 ((bit64 .or y6 y9))) rfl rfl rfl rfl ?_
        refine EL_at (.int .i64 ((bit64 .or y6 y9))) rfl rfl ?_
        refine EL_nil (blk_n ?_)
        obtain rfl := sinj h
        exact hQ _ _ ⟨qC, hfr, rA, yA, aB, dB, u4_1_190, iB, lB, u5_1_190, mB, rfl, x8, a9, d9, k9, l9, l8, n9, i7⟩
       ·refine E_cf uC rfl ?_
        refine E_skip (blk_n ?_)
        obtain rfl := sinj h
        exact hQ _ _ ⟨qC, hfr, rA, yA, aB, dB, u4_1_190, iB, lB, u5_1_190, mB, nB, x8, a9, d9, k9, l9, l8, n9, i7⟩
      ·clear hx
       obtain ⟨oH, hfr, zE, cF, dF, eF, u4_1_204, rF, sF, u5_1_204, tF, uF, oD, sD, tD, uD, vD, xD, yD, zD⟩ := hR
       refine E_region (EL_in (.int .i64 ((w64 (u3 + (1 : Int))))) zD rfl rfl rfl ?_)
       refine EL_mw (.int .i64 ((w64 (u3 + (1 : Int))))) rfl rfl ?_
       exact EL_nil (thn_n (yG (m8, (w64 (u3 + (1 : Int)))) _ _ ⟨oH, hfr, zE, cF, dF, eF, u4_1_204, rF, sF, u5_1_204, tF, uF, oD, sD, tD, uD, vD, xD, yD, rfl⟩ h))
     ·refine E_cf rC rfl ?_
      refine E_exit ?_
      refine thn_e ?_
      refine thn_e ?_
      refine blk_hit ?_
      obtain rfl := sinj h
      exact hQ _ _ ⟨qC, hfr, rA, yA, aB, dB, u4_1_190, iB, lB, u5_1_190, nB, x8, a9, d9, k9⟩
    ·clear hx
     obtain ⟨vF, hfr, xF, i6, yF, x6, u4_1_205, oB, x5, u5_1_205, zF, aE, t5, bE, iE⟩ := hR
     refine E_region (EL_p (fPtr p7 1) (P_fieldAddr at_55_1 oB (OB.ptr x5)) rfl ?_)
     refine EL_do .plain rfl (D_loadFS (g := vF) part_Design_1.1 Tryd.isAgg34 Tryd.sizeOf34 rfl x5 u5_1_205 fun vI jD o207 => ?_)
     refine EL_mv zF rfl ?_
     refine EL_do .plain rfl (D_buildSlice (g := vF) 3042 (xs := ([m7] : List Int)) (vs := [.int .i64 (m7)]) Tryd.underlying34 Tryd.sizeOf3 Tryd.zeroValue3 rfl rfl (.cons rfl .nil) (RVs.cons (RV_int.2 rfl) RVs.nil) rfl rfl fun pH yI zI hs o208 qH hxt hfl => ?_)
     have hfr := hfr.stp hs
     have i6 := i6.stp hs
     have u4_1_205 := u4_1_205.stp hs rfl
     have x6 := x6.stp hs rfl
     have x5 := x5.stp hs rfl
     have t5 := t5.stp hs
     have jD := jD.stp hs
     have o207 := o207.stp hs rfl
     obtain ⟨iD, cH, h⟩ := bsome h
     refine EL_do .plain rfl (D_append (g := pH) (i := 60501) Tryd.underlying34 info_3 rfl rfl o207 jD rfl qH cH fun sH eJ gJ hs o209 aG _ => ?_)
     have hfr := hfr.stp hs
     have i6 := i6.stp hs
     have u4_1_205 := u4_1_205.stp hs rfl
     have x6 := x6.stp hs rfl
     have x5 := x5.stp hs rfl
     have t5 := t5.stp hs
     refine EL_p (fPtr p7 1) (P_fieldAddr at_55_1 oB (OB.ptr x5)) rfl ?_
     refine EL_do .plain rfl (D_storeFc (g := sH) part_Design_1 Tryd.sizeOf34 rfl x5 rfl aG fun tH iJ hs b212 rst hos => ?_)
     have bG := hos _ _ 60501 3 (iD : List Int) (rv_cells1 aG) rfl o209
     clear rst hos
     have hfr := hfr.stp hs
     have i6 := i6.stp hs
     have u4_1_205 := u4_1_205.stp hs rfl
     have x6 := x6.stp hs rfl
     have t5 := t5.stp hs
     refine EL_nil (blk_n ?_)
     obtain rfl := sinj h
     exact hQ _ _ ⟨tH, hfr, xF, i6, yF, x6, u4_1_205, oB, b212, bG, aE, t5, bE, iE⟩
   ·clear hx
    obtain ⟨uH, hfr, cG, eG, gG, hG, u4_1_213, iG, jG, u5_1_213, lE, mE, oE, rE⟩ := hR
    refine E_region (EL_in (.int .i64 ((w64 (o0 + (1 : Int))))) rE rfl rfl rfl ?_)
    refine EL_mw (.int .i64 ((w64 (o0 + (1 : Int))))) rfl rfl ?_
    exact EL_nil (thn_n (xG (k8, (w64 (o0 + (1 : Int)))) _ _ ⟨uH, hfr, cG, eG, gG, hG, u4_1_213, iG, jG, u5_1_213, lE, mE, oE, rfl⟩ h))
  ·refine E_cf mC rfl ?_
   refine E_exit ?_
   refine thn_e ?_
   refine thn_e ?_
   refine blk_hit ?_
   obtain rfl := sinj h
   exact hQ _ _ ⟨cC, hfr, aD, bD, u4_1_113, cD, eD, u5_1_113⟩
 ·clear hx
  obtain ⟨kG, hfr, gD, lG, u4_1_214, mG, sG, u5_1_214⟩ := hR
  refine E_seq (E_region (EL_do .plain rfl (D_loadO (g := kG) Tryd.isAgg55 Tryd.sizeOf55 mG sG fun xH yH => ?_)))
  refine EL_do .plain rfl (D_storeOc (g := kG) (v := xH) Tryd.sizeOf55 gD lG rfl yH fun jJ kJ hs b216 cb => ?_)
  clear cb
  have hfr := hfr.stp hs
  refine EL_nil (thn_n (E_ret ?_))
  obtain rfl := sinj h
  obtain ⟨ad217, cv217, hp217, dH, cr217⟩ := ob_read Tryd.isAgg55 Tryd.sizeOf55 b216
  exact endm_c rfl rfl ((show _ = p2 from gD).trans hp217) dH ⟨_, hfr, cr217⟩
def f65 (x0 : EyeBoard) (x1 : Int) : Option (Bool) :=
 (idx ((x0).drawing) x1).bind fun y4 =>
 Option.bind (α := Bool) (
  bif (y4 != (-1 : Int)) then
   (idx (((x0).TieHarness).Warps) y4).bind fun y81 =>
   (idx (((x0).TieHarness).Warps) x1).bind fun l5 =>
   some ((y81 == l5))
  else
   some (false)
  ) fun u3 =>
 some (u3)
theorem en65 : Enters Tryd.prog 65 := enters_of Tryd.func65 (by kernel_rfl) rfl
theorem wk65 {gI : Gh} {wI : World} {x0 : EyeBoard} {x1 : Int} {up0 : Value} (rp0 : RV gI.m wI x0 up0) {r : Bool} (h : f65 x0 x1 = some r) : Fn Tryd.prog 65 #[up0, .int .i64 (x1)] gI wI (fun _ _ v => v = .bool (r)) := by
 unfold f65 at h
 refine fn_of_E Tryd.func65 rfl (Nat.le_of_ble_eq_true rfl) fun g0 hm hfr => ?_
 have rp0 : RV g0.m wI x0 up0 := hm ▸ rp0
 show E _ 28 none _ _ _ _ _
 refine E_seq (E_region (EL_do .plain rfl (D_box (g := g0) rfl rp0 fun g1 w1 p1 hs q1 => ?_)))
 have hfr := hfr.ext hs
 refine EL_at (.bool false) rfl rfl ?_
 refine EL_nil (thn_n (E_seq (E_region (EL_p (fPtr p1 2) (P_fieldAddr at_152_1 rfl (PT.ptr q1)) rfl ?_))))
 have q2 := PT_field (part_EyeBoard_1).1 q1
 refine EL_do .plain rfl (D_load (g := g1) Tryd.isAgg34 Tryd.sizeOf34 rfl q2 fun v3 r3 => ?_)
 refine EL_mw (.int .i64 (x1)) rfl rfl ?_
 obtain ⟨y4, x6, h⟩ := bsome h
 refine EL_p (ePtr v3 x1 1) (P_indexAddr (α := Int) Tryd.underlying34 Tryd.sizeOf3 rfl r3 rfl x6) rfl ?_
 have q5 := PT_idx r3 x6
 refine EL_do .plain rfl (D_load (g := g1) Tryd.isAgg3 Tryd.sizeOf3 rfl q5 fun v6 r6 => ?_)
 obtain rfl := RV_int.1 r6
 refine EL_at (.int .i64 (y4)) rfl rfl ?_
 refine EL_nil (thn_n ?_)
 obtain ⟨u3, hx, h⟩ := bsome h
 refine E_join (fun e w => ∃ (g : Gh) , Fr gI wI g w ∧ e 4 = .bool (u3)) (fun Q' hQ => ?_) (fun z9 bA hR => ?_)
 ·replace h := hx
  clear hx
  rcases csome h with ⟨o0, h⟩ | ⟨o0, h⟩
  ·have y6 := PT_field (part_EyeBoard_0).1 q1
   have a9 := PT_field (part_TieHarness_1).1 y6
   refine L_load (x := .tmp 15) Tryd.isAgg34 Tryd.sizeOf34 a9 fun i7 m7 m8 => ?_
   obtain ⟨y81, t5, h⟩ := bsome h
   have d9 := PT_idx m7 t5
   refine L_load (x := .tmp 18) Tryd.isAgg3 Tryd.sizeOf3 d9 fun yA k9 n8 => ?_
   obtain rfl := RV_int.1 k9
   have g8 := PT_field (part_EyeBoard_0).1 q1
   have l9 := PT_field (part_TieHarness_1).1 g8
   refine L_load (x := .tmp 21) Tryd.isAgg34 Tryd.sizeOf34 l9 fun k8 l8 r8 => ?_
   obtain ⟨l5, x5, h⟩ := bsome h
   have n9 := PT_idx l8 x5
   refine L_load (x := .tmp 24) Tryd.isAgg3 Tryd.sizeOf3 n9 fun aB u9 v8 => ?_
   obtain rfl := RV_int.1 u9
   refine E_drawL (g := g1) (n := 18) [] [0, 1, 2, 3, 4, 5, 6, 7, 8, 9, 10, 11, 12, 13, 14, 15, 16, 17] rfl mixed (by kernel_rfl) trivial ?_
   refine L_p (.int .i64 (y4)) rfl rfl (P_move rfl) ?_
   refine L_p (.bool ((y4 != (-1 : Int)))) rfl rfl (P_int rfl rfl rfl) ?_
   refine L_p (.bool ((y4 != (-1 : Int)))) rfl rfl (P_move rfl) ?_
   refine L_y (fPtr p1 0) rfl rfl rfl rfl o0 (P_fieldAddr at_152_0 rfl (PT.ptr q1)) ?_
   refine L_y (fPtr (fPtr p1 0) 1) rfl rfl rfl rfl o0 (P_fieldAddr at_52_1 rfl (PT.ptr y6)) ?_
   refine L_ld (c := i7) rfl rfl (.yes2 rfl rfl o0) (fun _ _ h => h.ch) m8 rfl ?_
   refine L_y (.int .i64 (y4)) rfl rfl rfl rfl o0 (P_move rfl) ?_
   refine L_y (ePtr i7 y4 1) rfl rfl rfl rfl o0 (P_indexAddr (α := Int) Tryd.underlying34 Tryd.sizeOf3 rfl m7 rfl t5) ?_
   refine L_ld (c := .int .i64 (y81)) rfl rfl (.yes2 rfl rfl o0) (fun _ _ h => h.ch) n8 rfl ?_
   refine L_y (fPtr p1 0) rfl rfl rfl rfl o0 (P_fieldAddr at_152_0 rfl (PT.ptr q1)) ?_
   refine L_y (fPtr (fPtr p1 0) 1) rfl rfl rfl rfl o0 (P_fieldAddr at_52_1 rfl (PT.ptr g8)) ?_
   refine L_ld (c := k8) rfl rfl (.yes2 rfl rfl o0) (fun _ _ h => h.ch) r8 rfl ?_
   refine L_y (.int .i64 (x1)) rfl rfl rfl rfl o0 (P_move rfl) ?_
   refine L_y (ePtr k8 x1 1) rfl rfl rfl rfl o0 (P_indexAddr (α := Int) Tryd.underlying34 Tryd.sizeOf3 rfl l8 rfl x5) ?_
   refine L_ld (c := .int .i64 (l5)) rfl rfl (.yes2 rfl rfl o0) (fun _ _ h => h.ch) v8 rfl ?_
   refine L_y (.bool ((y81 == l5))) rfl rfl rfl rfl o0 (P_int rfl rfl rfl) ?_
   refine L_p (.bool ((y81 == l5))) rfl rfl (P_pick (b := (y4 != (-1 : Int))) rfl (pick_t o0 rfl)) ?_
   refine L_p (.bool ((y81 == l5))) rfl rfl (P_assign rfl) ?_
   refine L_nl fun y9 dB hs => ?_
   have hfr := hfr.ext hs
   clear hs
   refine EL_nil ?_
   obtain rfl := sinj h
   exact hQ _ _ ⟨y9, hfr, rfl⟩
  ·refine E_drawL (g := g1) (n := 18) [] [0, 1, 2, 3, 4, 5, 6, 7, 8, 9, 10, 11, 12, 13, 14, 15, 16, 17] rfl mixed (by kernel_rfl) trivial ?_
   refine L_p (.int .i64 (y4)) rfl rfl (P_move rfl) ?_
   refine L_p (.bool ((y4 != (-1 : Int)))) rfl rfl (P_int rfl rfl rfl) ?_
   refine L_p (.bool ((y4 != (-1 : Int)))) rfl rfl (P_move rfl) ?_
   iterate 13 refine L_s rfl rfl rfl o0 rfl ?_
   refine L_p (.bool false) rfl rfl (P_pick (b := (y4 != (-1 : Int))) rfl (pick_f o0 rfl)) ?_
   refine L_p (.bool false) rfl rfl (P_assign rfl) ?_
   refine L_nl fun x8 iA hs => ?_
   have hfr := hfr.ext hs
   clear hs
   refine EL_nil ?_
   obtain rfl := sinj h
   exact hQ _ _ ⟨x8, hfr, rfl⟩
 ·clear hx
  obtain ⟨rA, hfr, i6⟩ := hR
  refine E_ret ?_
  obtain rfl := sinj h
  exact end1 rfl rfl (show _ = .bool (u3) from i6) ⟨_, hfr, rfl⟩
def f100 (x0 : Bool) : Option (UInt8) :=
 jn (σ := Unit) (fun _ =>
  some ((46 : UInt8))
  ) fun k2 =>
 bif x0 then
  some ((120 : UInt8))
 else
  k2 ()
theorem en100 : Enters Tryd.prog 100 := enters_of Tryd.func100 (by kernel_rfl) rfl
theorem wk100 {gI : Gh} {wI : World} {x0 : Bool}  {r : UInt8} (h : f100 x0 = some r) : Fn Tryd.prog 100 #[.bool (x0)] gI wI (fun _ _ v => v = .int .u8 (UInt8.toNat (r))) := by
 unfold f100 at h
 refine fn_of_E Tryd.func100 rfl (Nat.le_of_ble_eq_true rfl) fun g0 hm hfr => ?_
 show E _ 4 none _ _ _ _ _
 refine E_seq (E_region (EL_at (.int .u8 (UInt8.toNat 0)) rfl rfl ?_))
 refine EL_nil (thn_n (E_joinC h (fun (s : Unit) e w => ∃ (g : Gh) , Fr gI wI g w) (fun X2 k2 hk2 h => ?_) ?_))
 ·refine E_seq (E_region (EL_mw (.bool (x0)) rfl rfl ?_))
  refine EL_nil (thn_n ?_)
  rcases csome h with ⟨hc3, h⟩ | ⟨hc3, h⟩
  ·refine E_ct hc3 rfl ?_
   refine E_seq (E_region (EL_at (.int .u8 (UInt8.toNat 120)) rfl rfl ?_))
   refine EL_nil (thn_n (E_ret (thn_r ?_)))
   obtain rfl := sinj h
   exact end1 rfl rfl (show _ = .int .u8 (UInt8.toNat 120) from rfl) ⟨_, hfr, rfl⟩
  ·refine E_cf hc3 rfl ?_
   exact E_skip (thn_n (hk2 () _ _ ⟨g0, hfr⟩ h))
 ·rintro _ o0 w4 ⟨g4, hfr⟩ h
  refine E_seq (E_region (EL_at (.int .u8 (UInt8.toNat 46)) rfl rfl ?_))
  refine EL_nil (thn_n (E_ret ?_))
  obtain rfl := sinj h
  exact end1 rfl rfl (show _ = .int .u8 (UInt8.toNat 46) from rfl) ⟨_, hfr, rfl⟩
def f101 (x0 : TieTieHarness) (x1 : Int) (x2 : Int) : Option (Bool) :=
 (idx (((x0).TieHarness).Warps) x2).bind fun y5 =>
 (shr64 x1 y5).bind fun y8 =>
 some (((bit64 .and y8 (1 : Int)) == (1 : Int)))
theorem en101 : Enters Tryd.prog 101 := enters_of Tryd.func101 (by kernel_rfl) rfl
theorem wk101 {gI : Gh} {wI : World} {x0 : TieTieHarness} {x1 : Int} {x2 : Int} {up0 : Value} (rp0 : RV gI.m wI x0 up0) {r : Bool} (h : f101 x0 x1 x2 = some r) : Fn Tryd.prog 101 #[up0, .int .i64 (x1), .int .i64 (x2)] gI wI (fun _ _ v => v = .bool (r)) := by
 unfold f101 at h
 refine fn_of_E Tryd.func101 rfl (Nat.le_of_ble_eq_true rfl) fun g0 hm hfr => ?_
 have rp0 : RV g0.m wI x0 up0 := hm ▸ rp0
 show E _ 17 none _ _ _ _ _
 refine E_seq (E_region (EL_do .plain rfl (D_box (g := g0) rfl rp0 fun g1 w1 p1 hs q1 => ?_)))
 have hfr := hfr.ext hs
 refine EL_at (.bool false) rfl rfl ?_
 refine EL_nil (thn_n (E_seq (E_region (EL_mw (.int .i64 (x1)) rfl rfl ?_))))
 refine EL_p (fPtr p1 0) (P_fieldAddr at_129_0 rfl (PT.ptr q1)) rfl ?_
 have q2 := PT_field (part_TieTieHarness_0).1 q1
 refine EL_p (fPtr (fPtr p1 0) 1) (P_fieldAddr at_52_1 rfl (PT.ptr q2)) rfl ?_
 have q3 := PT_field (part_TieHarness_1).1 q2
 refine EL_do .plain rfl (D_load (g := g1) Tryd.isAgg34 Tryd.sizeOf34 rfl q3 fun v4 r4 => ?_)
 refine EL_mw (.int .i64 (x2)) rfl rfl ?_
 obtain ⟨y5, hy5, h⟩ := bsome h
 refine EL_p (ePtr v4 x2 1) (P_indexAddr (α := Int) Tryd.underlying34 Tryd.sizeOf3 rfl r4 rfl hy5) rfl ?_
 have q6 := PT_idx r4 hy5
 refine EL_do .plain rfl (D_load (g := g1) Tryd.isAgg3 Tryd.sizeOf3 rfl q6 fun v7 r7 => ?_)
 obtain rfl := RV_int.1 r7
 obtain ⟨y8, o0, h⟩ := bsome h
 refine EL_p (.int .i64 (y8)) (P_int rfl rfl (congrArg (Option.map (Value.int .i64)) o0)) rfl ?_
 refine EL_in (.int .i64 ((bit64 .and y8 (1 : Int)))) rfl rfl rfl rfl ?_
 refine EL_in (.bool (((bit64 .and y8 (1 : Int)) == (1 : Int)))) rfl rfl rfl rfl ?_
 refine EL_at (.bool (((bit64 .and y8 (1 : Int)) == (1 : Int)))) rfl rfl ?_
 refine EL_nil (thn_n (E_ret ?_))
 obtain rfl := sinj h
 exact end1 rfl rfl (show _ = .bool (((bit64 .and y8 (1 : Int)) == (1 : Int))) from rfl) ⟨_, hfr, rfl⟩
def f104 (x0 : List Str) (x1 : Int) : Option (Str) :=
 Option.bind (α := List UInt8) (
  lp (σ := List UInt8 × Int) (fun k18 (x5, o0) =>
   bif (decide (o0 < ((x0).length : Int))) then
    Option.bind (α := List UInt8) (
     (idx x0 o0).bind fun i7 =>
     (idx (i7).b x1).bind fun m7 =>
     (apnd 1 x5 [m7]).bind fun z9 =>
     some (z9)
     ) fun l5 =>
    k18 (l5, (w64 (o0 + (1 : Int))))
   else
    some (x5)
   ) big (([] : List UInt8), (0 : Int))
  ) fun i6 =>
 (sbstr i6).bind fun g8 =>
 some (g8)
theorem en104 : Enters Tryd.prog 104 := enters_of Tryd.func104 (by kernel_rfl) rfl
theorem wk104 {gI : Gh} {wI : World} {x0 : List Str} {x1 : Int} {up0 : Value} (rp0 : RV gI.m wI x0 up0) {r : Str} (h : f104 x0 x1 = some r) : Fn Tryd.prog 104 #[up0, .int .i64 (x1)] gI wI (fun _ _ v => v = Str.v (r)) := by
 unfold f104 at h
 refine fn_of_E Tryd.func104 rfl (Nat.le_of_ble_eq_true rfl) fun g0 hm hfr => ?_
 have rp0 : RV g0.m wI x0 up0 := hm ▸ rp0
 show E _ 20 none _ _ _ _ _
 refine E_seq (E_region (EL_at (Str.v (⟨[]⟩ : Str)) rfl rfl ?_))
 refine EL_nil (thn_n (E_seq (E_region (EL_do .plain rfl (D_allocOc (g := g0) 2005 ((⟨.pointer none, rfl⟩, []) : Fv × List UInt8) Tryd.zeroValue203 (fun m w => ⟨_, rep_two (show GoT.rep m w (⟨.pointer none, rfl⟩ : Fv) [.pointer none] from rfl) rep_nil, rfl⟩) fun g1 w1 p1 hs b1 cb => ?_)))))
 have hfr := hfr.stp hs
 have rp0 := rp0.stp hs
 replace b1 : SB 2005 60501 g1 w1 5 203 [] p1 := ⟨_, b1, cb.osf rfl, .inl rfl⟩
 clear cb
 refine EL_nil (thn_n ?_)
 obtain ⟨i6, hx, h⟩ := bsome h
 refine E_join (fun e w => ∃ (g : Gh) , Fr gI wI g w ∧ e 5 = p1 ∧ SB 2005 60501 g w 5 203 (i6) p1) (fun Q' hQ => ?_) (fun nB vB hR => ?_)
 ·replace h := hx
  clear hx
  refine E_seq (E_region (EL_mw up0 rfl rfl ?_))
  refine EL_p (.int .i64 ((x0).length : Int)) (P_len Tryd.underlying57 rfl rp0) rfl ?_
  refine EL_mw (.int .i64 (0)) rfl rfl ?_
  refine EL_nil (thn_n (E_block ?_))
  refine E_lp h (fun (s : List UInt8 × Int) e w => ∃ (g : Gh) , Fr gI wI g w ∧ e 1 = .int .i64 (x1) ∧ e 5 = p1 ∧ SB 2005 60501 g w 5 203 (s.1) p1 ∧ e 8 = up0 ∧ RV g.m w (x0 : List Str) up0 ∧ e 9 = .int .i64 (((x0).length : Int)) ∧ e 10 = .int .i64 (s.2)) ⟨g1, hfr, rfl, rfl, b1, rfl, rp0, rfl, rfl⟩ (fun X18 k18 iA => ?_)
  rintro ⟨x5, o0⟩ oB yB ⟨bA, hfr, k8, x6, l8, m8, u3, n8, t5⟩ h
  refine E_seq (E_region (EL_in (.bool ((decide (o0 < ((x0).length : Int))))) t5 n8 rfl rfl ?_))
  refine EL_nil (thn_n (E_seq ?_))
  rcases csome h with ⟨y6, h⟩ | ⟨y6, h⟩
  ·refine E_ct y6 rfl ?_
   refine E_skip (thn_n ?_)
   obtain ⟨l5, hx, h⟩ := bsome h
   refine E_join (fun e w => ∃ (g : Gh) , Fr gI wI g w ∧ e 1 = .int .i64 (x1) ∧ e 5 = p1 ∧ SB 2005 60501 g w 5 203 (l5) p1 ∧ e 8 = up0 ∧ RV g.m w (x0 : List Str) up0 ∧ e 9 = .int .i64 (((x0).length : Int)) ∧ e 10 = .int .i64 (o0)) (fun Q' hQ => ?_) (fun tB zB hR => ?_)
   ·replace h := hx
    clear hx
    refine E_block ?_
    refine E_seq (E_region ?_)
    obtain ⟨i7, r8, h⟩ := bsome h
    refine EL_p (ePtr up0 o0 1) (P_indexAddr (α := Str) Tryd.underlying57 Tryd.sizeOf9 m8 u3 t5 r8) rfl ?_
    have dB := PT_idx u3 r8
    refine EL_do .plain rfl (D_load (g := bA) Tryd.isAgg9 Tryd.sizeOf9 rfl dB fun cC iB => ?_)
    obtain rfl := RV_str.1 iB
    refine EL_at (Str.v (i7)) rfl rfl ?_
    refine EL_nil (thn_n (E_region (EL_mw (Str.v (i7)) rfl rfl ?_)))
    refine EL_mv k8 rfl ?_
    obtain ⟨m7, rA, h⟩ := bsome h
    refine EL_p (.int .u8 (UInt8.toNat (m7))) (P_indexS Tryd.underlying9 rfl rfl rA) rfl ?_
    obtain ⟨z9, yA, h⟩ := bsome h
    refine EL_do .plain rfl (D_callC (vs := [p1, .int .u8 (UInt8.toNat (m7))]) en99 (.cons x6 (.cons rfl .nil)) (wk99 (i := 2005) (j := 60501) rfl rfl l8 yA) fun mC qC hq => ?_)
    obtain ⟨hv, lB, ⟨_, _, _, _, hs1, hs2, hs3⟩, b31⟩ := hq
    subst hv
    have hfr := hfr.stp hs1
    have u3 := u3.stp hs1
    have hfr := hfr.stp hs2
    have u3 := u3.stp hs2
    have hfr := hfr.stp hs3
    have u3 := u3.stp hs3
    clear hs1 hs2 hs3
    refine EL_nil (blk_n ?_)
    obtain rfl := sinj h
    exact hQ _ _ ⟨lB, hfr, k8, x6, b31, m8, u3, n8, t5⟩
   ·clear hx
    obtain ⟨mB, hfr, x8, a9, d9, k9, l9, n9, v8⟩ := hR
    refine E_region (EL_in (.int .i64 ((w64 (o0 + (1 : Int))))) v8 rfl rfl rfl ?_)
    refine EL_mw (.int .i64 ((w64 (o0 + (1 : Int))))) rfl rfl ?_
    exact EL_nil (thn_n (iA (l5, (w64 (o0 + (1 : Int)))) _ _ ⟨mB, hfr, x8, a9, d9, k9, l9, n9, rfl⟩ h))
  ·refine E_cf y6 rfl ?_
   refine E_exit ?_
   refine thn_e ?_
   refine thn_e ?_
   refine blk_hit ?_
   obtain rfl := sinj h
   exact hQ _ _ ⟨bA, hfr, x6, l8⟩
 ·clear hx
  obtain ⟨rC, hfr, u9, y9⟩ := hR
  refine E_seq (E_region ?_)
  obtain ⟨g8, aB, h⟩ := bsome h
  obtain ⟨hne35, hye35⟩ := sbstr_h aB
  refine EL_do .plain rfl (D_callC (vs := [p1]) en102 (.cons u9 .nil) (wk102 (i := 2005) (j := 60501) rfl y9 hne35) fun uC vC hq => ?_)
  obtain ⟨hv, aD, hs⟩ := hq
  rw [← hye35] at hv
  subst hv
  have hfr := hfr.stp hs
  refine EL_at (Str.v g8) rfl rfl ?_
  refine EL_nil (thn_n (E_ret ?_))
  obtain rfl := sinj h
  exact end1 rfl rfl (show _ = Str.v g8 from rfl) ⟨_, hfr, rfl⟩
def f110 (x0 : List Int) (x1 : Int) : Option ((List Int)) :=
 Option.bind (α := Unit) (
  bif (decide (x1 < (0 : Int))) then
   none
  else
   some ()
  ) fun (_ : Unit) =>
 (mulU ((wu64 ((x0).length : Int))) ((wu64 x1))).bind fun y4 =>
 Option.bind (α := Unit) (
  Option.bind (α := Bool) (
   bif (decide (y4.1 > (0 : Int))) then
    some (true)
   else
    some ((decide (y4.2 > (9223372036854775807 : Int))))
   ) fun t5 =>
  bif t5 then
   none
  else
   some ()
  ) fun (_ : Unit) =>
 (mks 8 (0 : Int) ((w64 (y4.2)))).bind fun n8 =>
 Option.bind (α := (List Int)) (
  lp (σ := (List Int) × Int) (fun aB (u3, o0) =>
   jn (σ := Unit) (fun _ =>
    (cut u3 o0 ((u3).length : Int)).bind fun x6 =>
    (cut u3 0 o0).bind fun y6 =>
    aB ((cpy u3 o0 x6 y6), (w64 (o0 + ((min (y6).length (x6).length : Nat) : Int))))
    ) fun dB =>
   bif (decide (o0 < ((u3).length : Int))) then
    dB ()
   else
    some (u3)
   ) big ((cpy n8 0 n8 x0), ((min (x0).length (n8).length : Nat) : Int))
  ) fun i7 =>
 some (i7)
theorem en110 : Enters Tryd.prog 110 := enters_of Tryd.func110 (by kernel_rfl) rfl
theorem wk110 {gI : Gh} {wI : World} {x0 : List Int} {x1 : Int} {up0 : Value} (rp0 : RV gI.m wI x0 up0) {r : (List Int)} (h : f110 x0 x1 = some r) : Fn Tryd.prog 110 #[up0, .int .i64 (x1)] gI wI (fun m w v => RV m w (r) v) := by
 unfold f110 at h
 refine fn_of_E Tryd.func110 rfl (Nat.le_of_ble_eq_true rfl) fun g0 hm hfr => ?_
 have rp0 : RV g0.m wI x0 up0 := hm ▸ rp0
 show E _ 48 none _ _ _ _ _
 refine E_seq (E_region (EL_at (.slice none 0 0) rfl rfl ?_))
 refine EL_nil (thn_n ?_)
 obtain ⟨_, hx, h⟩ := bsome h
 refine E_join (fun e w => ∃ (g : Gh) , Fr gI wI g w ∧ e 0 = up0 ∧ RV g.m w (x0 : List Int) up0 ∧ e 1 = .int .i64 (x1)) (fun Q' hQ => ?_) (fun eD w3 hR => ?_)
 ·replace h := hx
  clear hx
  refine E_seq (E_region (EL_mw (.int .i64 (x1)) rfl rfl ?_))
  refine EL_in (.bool ((decide (x1 < (0 : Int))))) rfl rfl rfl rfl ?_
  refine EL_nil (thn_n ?_)
  rcases csome h with ⟨hc2, h⟩ | ⟨hc2, h⟩
  ·refine E_ct hc2 rfl ?_
   refine E_region ?_
   cases h
  ·refine E_cf hc2 rfl ?_
   refine E_skip ?_
   obtain rfl := sinj h
   exact hQ _ _ ⟨g0, hfr, rfl, rp0, rfl⟩
 ·clear hx
  obtain ⟨g3, hfr, v8, x8, mB⟩ := hR
  refine E_seq (E_region (EL_mv v8 rfl ?_))
  refine EL_p (.int .i64 ((x0).length : Int)) (P_len Tryd.underlying34 rfl x8) rfl ?_
  refine EL_p (.int .u64 (wu64 ((x0).length : Int))) (P_intu64 Tryd.underlying3 Tryd.underlying75 rfl) rfl ?_
  refine EL_mv mB rfl ?_
  refine EL_p (.int .u64 (wu64 x1)) (P_intu64 Tryd.underlying3 Tryd.underlying75 rfl) rfl ?_
  obtain ⟨y4, vB, h⟩ := bsome h
  refine EL_do .plain rfl (D_mulU en161 mul_ok rfl rfl vB ?_)
  refine EL_mw (.tuple #[.int .u64 y4.1, .int .u64 y4.2]) rfl rfl ?_
  refine EL_p (.int .u64 y4.1) (P_extract rfl rfl) rfl ?_
  refine EL_p (.int .u64 y4.2) (P_extract rfl rfl) rfl ?_
  refine EL_at (.int .u64 y4.1) rfl rfl ?_
  refine EL_at (.int .u64 y4.2) rfl rfl ?_
  refine EL_nil (thn_n ?_)
  obtain ⟨_, hx, h⟩ := bsome h
  refine E_join (fun e w => ∃ (g : Gh) , Fr gI wI g w ∧ e 0 = up0 ∧ RV g.m w (x0 : List Int) up0 ∧ e 6 = .int .u64 (y4.2)) (fun Q' hQ => ?_) (fun uC gD hR => ?_)
  ·replace h := hx
   clear hx
   obtain ⟨t5, hx, h⟩ := bsome h
   refine E_join (fun e w => ∃ (g : Gh) , Fr gI wI g w ∧ e 0 = up0 ∧ RV g.m w (x0 : List Int) up0 ∧ e 6 = .int .u64 (y4.2) ∧ e 26 = .bool (t5)) (fun Q' hQ => ?_) (fun vC iD hR => ?_)
   ·replace h := hx
    clear hx
    refine E_region (EL_mw (.int .u64 y4.1) rfl rfl ?_)
    refine EL_p (.bool (decide (y4.1 > (0 : Int)))) (P_u64cmp rfl rfl rfl) rfl ?_
    refine EL_mw (.bool (decide (y4.1 > (0 : Int)))) rfl rfl ?_
    rcases csome h with ⟨x5, h⟩ | ⟨x5, h⟩
    ·refine EL_s rfl rfl x5 rfl rfl ?_
     refine EL_s rfl rfl x5 rfl rfl ?_
     refine EL_p (.bool true) (P_pick (b := (decide (y4.1 > (0 : Int)))) rfl (pick_t x5 rfl)) rfl ?_
     refine EL_nil ?_
     obtain rfl := sinj h
     exact hQ _ _ ⟨g3, hfr, v8, x8, rfl, rfl⟩
    ·refine EL_y (.int .u64 y4.2) (P_move rfl) rfl rfl x5 rfl ?_
     refine EL_y (.bool (decide (y4.2 > (9223372036854775807 : Int)))) (P_u64cmp rfl rfl rfl) rfl rfl x5 rfl ?_
     refine EL_p (.bool (decide (y4.2 > (9223372036854775807 : Int)))) (P_pick (b := (decide (y4.1 > (0 : Int)))) rfl (pick_f x5 rfl)) rfl ?_
     refine EL_nil ?_
     obtain rfl := sinj h
     exact hQ _ _ ⟨g3, hfr, v8, x8, rfl, rfl⟩
   ·clear hx
    obtain ⟨yB, hfr, u9, y9, z9, r8⟩ := hR
    rcases csome h with ⟨a9, h⟩ | ⟨a9, h⟩
    ·refine E_cond_true (Eq.trans (show ev _ _ = .bool (t5) from r8) (congrArg Value.bool a9)) ?_
     refine E_region ?_
     cases h
    ·refine E_cond_false (Eq.trans (show ev _ _ = .bool (t5) from r8) (congrArg Value.bool a9)) ?_
     refine E_skip ?_
     obtain rfl := sinj h
     exact hQ _ _ ⟨yB, hfr, u9, y9, z9⟩
  ·clear hx
   obtain ⟨zB, hfr, bA, m7, iA⟩ := hR
   refine E_seq (E_region (EL_mv iA rfl ?_))
   refine EL_p (.int .i64 ((w64 (y4.2)))) (P_u64int Tryd.underlying75 Tryd.underlying3 rfl) rfl ?_
   obtain ⟨n8, nB, h⟩ := bsome h
   refine EL_do .plain rfl (D_makeSliceM (g := zB) 9030 (0 : Int) rfl Tryd.underlying34 info_3 rfl (fun _ _ => rfl) rfl rfl nB fun cC w15 l5 hs b15 => ?_)
   have hfr := hfr.stp hs
   have m7 := m7.stp hs
   refine EL_at l5 rfl rfl ?_
   refine EL_nil (thn_n (E_seq (E_region (EL_mw l5 rfl rfl ?_))))
   refine EL_mv bA rfl ?_
   refine EL_do .plain rfl (D_copyM (g := cC) (α := Int) Tryd.underlying34 info_3 rfl b15 rfl m7 fun mC jD hs b16 => ?_)
   have hfr := hfr.stp hs
   refine EL_at (.int .i64 ((min (x0).length (n8).length : Nat) : Int)) rfl rfl ?_
   refine EL_nil (thn_n ?_)
   obtain ⟨i7, hx, h⟩ := bsome h
   refine E_join (fun e w => ∃ (g : Gh) , Fr gI wI g w ∧ e 7 = l5 ∧ OM 9030 g w 3 (i7 : List Int) l5) (fun Q' hQ => ?_) (fun aD lD hR => ?_)
   ·replace h := hx
    clear hx
    refine E_block ?_
    refine E_lp h (fun (s : (List Int) × Int) e w => ∃ (g : Gh) , Fr gI wI g w ∧ e 7 = l5 ∧ OM 9030 g w 3 (s.1 : List Int) l5 ∧ e 8 = .int .i64 (s.2)) ⟨mC, hfr, rfl, b16, rfl⟩ (fun X29 aB oB => ?_)
    rintro ⟨u3, o0⟩ bD nD ⟨iB, hfr, g8, k8, k9⟩ h
    refine E_joinC h (fun (s : Unit) e w => ∃ (g : Gh) , Fr gI wI g w ∧ e 7 = l5 ∧ OM 9030 g w 3 (u3 : List Int) l5 ∧ e 8 = .int .i64 (o0)) (fun X32 dB tB h => ?_) ?_
    ·refine E_seq (E_region (EL_mv k9 rfl ?_))
     refine EL_mv g8 rfl ?_
     refine EL_p (.int .i64 ((u3).length : Int)) (P_lenM Tryd.underlying34 rfl k8) rfl ?_
     refine EL_in (.bool ((decide (o0 < ((u3).length : Int))))) rfl rfl rfl rfl ?_
     refine EL_nil (thn_n ?_)
     rcases csome h with ⟨d9, h⟩ | ⟨d9, h⟩
     ·refine E_ct d9 rfl ?_
      exact E_skip (thn_n (tB () _ _ ⟨iB, hfr, g8, k8, k9⟩ h))
     ·refine E_cf d9 rfl ?_
      refine E_exit ?_
      refine thn_e ?_
      refine thn_e ?_
      refine blk_hit ?_
      obtain rfl := sinj h
      exact hQ _ _ ⟨iB, hfr, g8, k8⟩
    ·rintro _ cD qC ⟨lB, hfr, l8, i6, m8⟩ h
     refine E_block ?_
     obtain ⟨x6, l9, h⟩ := bsome h
     obtain ⟨y6, n9, h⟩ := bsome h
     refine E_drawC (g := lB) (w := qC) (n := 8) [0, 1, 2, 3, 4, 5, 6] [] [0, 1, 2, 3, 4, 5, 6, 7] rfl mixed (by kernel_rfl) fun w_c37 hs hlt => ?_
     have hfr := hfr.ext hs
     have i6 := i6.ext hs
     clear hs
     refine CH_pur (c := .int .i64 (o0)) rfl rfl .plain (P_move m8) ?_
     refine CH_pur (c := l5) rfl rfl .plain (P_move l8) ?_
     refine CH_pur (c := .int .i64 (o0)) rfl rfl .plain (P_move m8) ?_
     refine CH_pur (c := (cutV l5 (Int.toNat o0) (Int.toNat ((u3).length : Int)) 1)) rfl rfl .plain (P_cutM (α := Int) Tryd.underlying34 Tryd.sizeOf3 rfl (OM.hdr i6) rfl rfl l9) ?_
     refine CH_pur (c := l5) rfl rfl .plain (P_move l8) ?_
     refine CH_pur (c := .int .i64 (o0)) rfl rfl .plain (P_move m8) ?_
     refine CH_pur (c := (cutV l5 0 (Int.toNat o0) 1)) rfl rfl .plain (P_cutM (α := Int) Tryd.underlying34 Tryd.sizeOf3 rfl (OM.hdr i6) rfl rfl n9) ?_
     refine CH_do rfl rfl .plain (D_copyMM (g := lB) (α := Int) Tryd.underlying34 info_3 rfl i6 rfl l9 n9 fun rC oD hs b40 => ?_)
     have hfr := hfr.stp hs
     have hlt := hlt.stp hs
     refine ⟨hlt.toW, ?_⟩
     refine CH_nil ?_
     clear hlt
     refine EL_p (.int .i64 ((w64 (o0 + ((min (y6).length (x6).length : Nat) : Int))))) (P_int rfl rfl rfl) rfl ?_
     refine EL_p (.int .i64 ((w64 (o0 + ((min (y6).length (x6).length : Nat) : Int))))) (P_assign rfl) rfl ?_
     exact EL_nil (blk_n (thn_n (oB ((cpy u3 o0 x6 y6), (w64 (o0 + ((min (y6).length (x6).length : Nat) : Int)))) _ _ ⟨rC, hfr, l8, b40, rfl⟩ h)))
   ·clear hx
    obtain ⟨sD, hfr, rA, yA⟩ := hR
    refine E_seq (E_region (EL_mv rA rfl ?_))
    obtain ⟨gp42, hs, rp42⟩ := OM.pub yA
    have hfr := hfr.stp hs
    refine EL_at l5 rfl rfl ?_
    refine EL_nil (thn_n (E_ret ?_))
    obtain rfl := sinj h
    exact end1 rfl rfl (show _ = l5 from rfl) ⟨_, hfr, rp42⟩
def f116 (x0 : List Int) : Option ((List Int)) :=
 lp (σ := (List Int) × Int × Int) (fun k1 (l5, o0, u3) =>
  jn (σ := Unit) (fun _ =>
   Option.bind (α := (List Int)) (
    (idx l5 u3).bind fun x6 =>
    (idx l5 o0).bind fun m7 =>
    (idx l5 o0).bind fun bA =>
    (idx ((List.set l5 (Int.toNat o0) x6)) u3).bind fun y55 =>
    some ((List.set ((List.set l5 (Int.toNat o0) x6)) (Int.toNat u3) m7))
    ) fun x5 =>
   k1 (x5, (w64 (o0 + (1 : Int))), (w64 (u3 - (1 : Int))))
   ) fun k4 =>
  bif (decide (o0 < u3)) then
   k4 ()
  else
   some (l5)
  ) big (x0, (0 : Int), (w64 (((x0).length : Int) - (1 : Int))))
theorem en116 : Enters Tryd.prog 116 := enters_of Tryd.func116 (by kernel_rfl) rfl
theorem wk116 {iI : Nat} {gI : Gh} {wI : World} {x0 : List Int} {up0 : Value} (mp0 : OM iI gI wI 3 x0 up0) {r : (List Int)} (h : f116 x0 = some r) : FnM Tryd.prog 116 #[up0] iI gI wI (fun g w v => v = .tuple #[] ∧ OM iI g w 3 r up0) := by
 unfold f116 at h
 refine fnM_of_E Tryd.func116 rfl (Nat.le_of_ble_eq_true rfl) fun g0 hm hfr => ?_
 have x8 := mp0
 replace mp0 := mp0.enter
 rw [← hm] at mp0
 replace hm : g0.m = gI.m := by rw [hm]
 show E _ 28 none _ _ _ _ _
 refine E_seq (E_region (EL_mw up0 rfl rfl ?_))
 refine EL_p (.int .i64 ((x0).length : Int)) (P_lenM Tryd.underlying34 rfl mp0) rfl ?_
 refine EL_in (.int .i64 ((w64 (((x0).length : Int) - (1 : Int))))) rfl rfl rfl rfl ?_
 refine EL_at (.int .i64 (0)) rfl rfl ?_
 refine EL_at (.int .i64 ((w64 (((x0).length : Int) - (1 : Int))))) rfl rfl ?_
 refine EL_nil (thn_n (E_block ?_))
 refine E_lp h (fun (s : (List Int) × Int × Int) e w => ∃ (g : Gh) , FrM iI gI wI g w ∧ e 0 = up0 ∧ OM 1 g w 3 (s.1 : List Int) up0 ∧ e 2 = .int .i64 (s.2.1) ∧ e 3 = .int .i64 (s.2.2)) ⟨g0, hfr, rfl, mp0, rfl, rfl⟩ (fun X1 k1 hk1 => ?_)
 rintro ⟨l5, o0, u3⟩ mB w2 ⟨g2, hfr, u9, g8, k8, l8⟩ h
 refine E_joinC h (fun (s : Unit) e w => ∃ (g : Gh) , FrM iI gI wI g w ∧ e 0 = up0 ∧ OM 1 g w 3 (l5 : List Int) up0 ∧ e 2 = .int .i64 (o0) ∧ e 3 = .int .i64 (u3)) (fun X4 k4 hk4 h => ?_) ?_
 ·refine E_seq (E_region (EL_mv k8 rfl ?_))
  refine EL_mv l8 rfl ?_
  refine EL_in (.bool ((decide (o0 < u3)))) rfl rfl rfl rfl ?_
  refine EL_nil (thn_n ?_)
  rcases csome h with ⟨hc5, h⟩ | ⟨hc5, h⟩
  ·refine E_ct hc5 rfl ?_
   exact E_skip (thn_n (hk4 () _ _ ⟨g2, hfr, u9, g8, k8, l8⟩ h))
  ·refine E_cf hc5 rfl ?_
   refine E_exit ?_
   refine thn_e ?_
   refine thn_e ?_
   refine blk_hit ?_
   obtain rfl := sinj h
   exact end0n rfl rfl ⟨_, hfr, rfl, x8.back g8⟩
 ·rintro _ nB w6 ⟨g6, hfr, i6, t5, y6, i7⟩ h
  obtain ⟨x5, hx, h⟩ := bsome h
  refine E_join (fun e w => ∃ (g : Gh) , FrM iI gI wI g w ∧ e 0 = up0 ∧ OM 1 g w 3 (x5 : List Int) up0 ∧ e 2 = .int .i64 (o0) ∧ e 3 = .int .i64 (u3)) (fun Q' hQ => ?_) (fun lB oB hR => ?_)
  ·replace h := hx
   clear hx
   refine E_block ?_
   obtain ⟨x6, m8, h⟩ := bsome h
   refine L_loadM (x := .tmp 20) Tryd.isAgg3 Tryd.sizeOf3 t5 m8 fun tB iA y9 => ?_
   obtain rfl := RV_int.1 iA
   obtain ⟨m7, n8, h⟩ := bsome h
   refine L_loadM (x := .tmp 24) Tryd.isAgg3 Tryd.sizeOf3 t5 n8 fun vB rA z9 => ?_
   obtain rfl := RV_int.1 rA
   obtain ⟨bA, r8, h⟩ := bsome h
   refine E_drawTL (g := g6) (n := 13) [2, 3] [] [0, 1, 2, 3, 4, 5, 6, 7, 8, 9, 10, 11, 12] rfl mixed (by kernel_rfl) trivial rfl ?_
   refine L_p up0 rfl rfl (P_move i6) ?_
   refine L_p (.int .i64 (o0)) rfl rfl (P_move y6) ?_
   refine L_purL (c := up0) rfl rfl .plain (P_move i6) ?_
   refine L_purL (c := .int .i64 (u3)) rfl rfl .plain (P_move i7) ?_
   refine L_p up0 rfl rfl (P_move i6) ?_
   refine L_p (.int .i64 (u3)) rfl rfl (P_move i7) ?_
   refine L_p (ePtr up0 u3 1) rfl rfl (P_indexAddrM (α := Int) Tryd.underlying34 Tryd.sizeOf3 rfl t5 rfl m8) ?_
   refine L_ld (c := .int .i64 (x6)) rfl rfl .plain (fun _ _ h => ⟨h.ch, fun b hb _ => h.below.block b hb⟩) y9 rfl ?_
   refine L_p up0 rfl rfl (P_move i6) ?_
   refine L_p (.int .i64 (o0)) rfl rfl (P_move y6) ?_
   refine L_p (ePtr up0 o0 1) rfl rfl (P_indexAddrM (α := Int) Tryd.underlying34 Tryd.sizeOf3 rfl t5 rfl n8) ?_
   refine L_ld (c := .int .i64 (m7)) rfl rfl .plain (fun _ _ h => ⟨h.ch, fun b hb _ => h.below.block b hb⟩) z9 rfl ?_
   refine L_p (ePtr up0 o0 1) rfl rfl (P_indexAddrM (α := Int) Tryd.underlying34 Tryd.sizeOf3 rfl t5 rfl r8) ?_
   refine L_nl fun n9 yA hs => ?_
   have hlt : Lt g6.m w6 n9 yA := hs.ch
   have hfr := hfr.ext hs
   have t5 := t5.ext hs
   clear hs
   refine TL_do hlt.w .plain rfl (D_storeM (g := n9) (α := Int) (a' := x6) Tryd.sizeOf3 rfl t5 r8 rfl (RV_int.2 rfl) fun aB yB hs b54 => ?_)
   have hfr := hfr.stp hs
   have hlt := hlt.stp hs
   obtain ⟨y55, v8, h⟩ := bsome h
   refine TL_pur hlt.w (v := ePtr up0 u3 1) (P_indexAddrM (α := Int) Tryd.underlying34 Tryd.sizeOf3 rfl b54 rfl v8) .plain rfl ?_
   refine TL_do hlt.w .plain rfl (D_storeM (g := aB) (α := Int) (a' := m7) Tryd.sizeOf3 rfl b54 v8 rfl (RV_int.2 rfl) fun dB zB hs b56 => ?_)
   have hfr := hfr.stp hs
   have hlt := hlt.stp hs
   refine TL_nil hlt.w ?_
   clear hlt
   refine blk_n ?_
   obtain rfl := sinj h
   exact hQ _ _ ⟨dB, hfr, i6, b56, y6, i7⟩
  ·clear hx
   obtain ⟨iB, hfr, a9, d9, k9, l9⟩ := hR
   refine E_region (EL_mv k9 rfl ?_)
   refine EL_in (.int .i64 ((w64 (o0 + (1 : Int))))) rfl rfl rfl rfl ?_
   refine EL_mv l9 rfl ?_
   refine EL_in (.int .i64 ((w64 (u3 - (1 : Int))))) rfl rfl rfl rfl ?_
   refine EL_at (.int .i64 ((w64 (o0 + (1 : Int))))) rfl rfl ?_
   refine EL_at (.int .i64 ((w64 (u3 - (1 : Int))))) rfl rfl ?_
   exact EL_nil (thn_n (hk1 (x5, (w64 (o0 + (1 : Int))), (w64 (u3 - (1 : Int)))) _ _ ⟨iB, hfr, a9, d9, rfl, rfl⟩ h))
def f118 (x0 : List Int) : Option ((List EyeThread)) :=
 Option.bind (α := (List EyeThread)) (
  lp (σ := (List EyeThread) × Int) (fun rA (y6, o0) =>
   bif (decide (o0 < ((x0).length : Int))) then
    Option.bind (α := (List EyeThread)) (
     (idx x0 o0).bind fun l5 =>
     bif (l5 != (-1 : Int)) then
      (apnd 16 y6 (([(⟨o0, l5⟩ : EyeThread)] : List EyeThread))).bind fun yA =>
      some (yA)
     else
      some (y6)
     ) fun t5 =>
    rA (t5, (w64 (o0 + (1 : Int))))
   else
    some (y6)
   ) big ([], (0 : Int))
  ) fun i7 =>
 some (i7)
theorem en118 : Enters Tryd.prog 118 := enters_of Tryd.func118 (by kernel_rfl) rfl
theorem wk118 {gI : Gh} {wI : World} {x0 : List Int} {up0 : Value} (rp0 : RV gI.m wI x0 up0) {r : (List EyeThread)} (h : f118 x0 = some r) : Fn Tryd.prog 118 #[up0] gI wI (fun m w v => RV m w (r) v) := by
 unfold f118 at h
 refine fn_of_E Tryd.func118 rfl (Nat.le_of_ble_eq_true rfl) fun g0 hm hfr => ?_
 have rp0 : RV g0.m wI x0 up0 := hm ▸ rp0
 show E _ 22 none _ _ _ _ _
 refine E_seq (E_region (EL_at (.slice none 0 0) rfl rfl ?_))
 refine EL_nil (thn_n ?_)
 obtain ⟨i7, hx, h⟩ := bsome h
 refine E_join (fun e w => ∃ (g : Gh) (v2 : Value), Fr gI wI g w ∧ e 2 = v2 ∧ RV g.m w (i7 : List EyeThread) v2 ∧ OS 1002 g w 231 (i7 : List EyeThread) v2) (fun Q' hQ => ?_) (fun uC bD hR => ?_)
 ·replace h := hx
  clear hx
  refine E_seq (E_region (EL_mw up0 rfl rfl ?_))
  refine EL_p (.int .i64 ((x0).length : Int)) (P_len Tryd.underlying34 rfl rp0) rfl ?_
  refine EL_mw (.int .i64 (0)) rfl rfl ?_
  refine EL_nil (thn_n (E_block ?_))
  refine E_lp h (fun (s : (List EyeThread) × Int) e w => ∃ (g : Gh) (v2 : Value), Fr gI wI g w ∧ e 2 = v2 ∧ RV g.m w (s.1 : List EyeThread) v2 ∧ OS 1002 g w 231 (s.1 : List EyeThread) v2 ∧ e 5 = up0 ∧ RV g.m w (x0 : List Int) up0 ∧ e 6 = .int .i64 (((x0).length : Int)) ∧ e 7 = .int .i64 (s.2)) ⟨g0, (.slice none 0 0), hfr, rfl, RV_nil, OS.nil, rfl, rp0, rfl, rfl⟩ (fun X21 rA lB => ?_)
  rintro ⟨y6, o0⟩ vC oB ⟨l8, r8, hfr, m7, x5, i6, g8, u3, k8, x6⟩ h
  refine E_seq (E_region (EL_in (.bool ((decide (o0 < ((x0).length : Int))))) x6 k8 rfl rfl ?_))
  refine EL_nil (thn_n (E_seq ?_))
  rcases csome h with ⟨m8, h⟩ | ⟨m8, h⟩
  ·refine E_ct m8 rfl ?_
   refine E_skip (thn_n ?_)
   obtain ⟨t5, hx, h⟩ := bsome h
   refine E_join (fun e w => ∃ (g : Gh) (v2 : Value), Fr gI wI g w ∧ e 2 = v2 ∧ RV g.m w (t5 : List EyeThread) v2 ∧ OS 1002 g w 231 (t5 : List EyeThread) v2 ∧ e 5 = up0 ∧ RV g.m w (x0 : List Int) up0 ∧ e 6 = .int .i64 (((x0).length : Int)) ∧ e 7 = .int .i64 (o0)) (fun Q' hQ => ?_) (fun aD cD hR => ?_)
   ·replace h := hx
    clear hx
    refine E_block ?_
    refine E_seq (E_region (EL_mv x6 rfl ?_))
    obtain ⟨l5, x8, h⟩ := bsome h
    refine EL_p (ePtr up0 o0 1) (P_indexAddr (α := Int) Tryd.underlying34 Tryd.sizeOf3 g8 u3 x6 x8) rfl ?_
    have tB := PT_idx u3 x8
    refine EL_do .plain rfl (D_load (g := l8) Tryd.isAgg3 Tryd.sizeOf3 rfl tB fun eD vB => ?_)
    obtain rfl := RV_int.1 vB
    refine EL_at (.int .i64 (o0)) rfl rfl ?_
    refine EL_at (.int .i64 (l5)) rfl rfl ?_
    refine EL_nil (thn_n (E_seq (E_region (EL_mw (.int .i64 (l5)) rfl rfl ?_))))
    refine EL_in (.bool ((l5 != (-1 : Int)))) rfl rfl rfl rfl ?_
    refine EL_nil (thn_n ?_)
    rcases csome h with ⟨n8, h⟩ | ⟨n8, h⟩
    ·refine E_ct n8 rfl ?_
     refine E_region (EL_mv m7 rfl ?_)
     refine EL_mw (.int .i64 (o0)) rfl rfl ?_
     refine EL_mw (.int .i64 (l5)) rfl rfl ?_
     have aB : RV l8.m oB (⟨o0, l5⟩ : EyeThread) (.agg (setCh [[.int .i64 0], [.int .i64 0]] [(0, .int .i64 (o0)), (1, .int .i64 (l5))]).flatten.toArray) := RV_build rfl (rep_pair (rfl) (rep_last (rfl)))
     generalize mB : (Value.agg (setCh [[.int .i64 0], [.int .i64 0]] [(0, .int .i64 (o0)), (1, .int .i64 (l5))]).flatten.toArray) = dB at aB
     refine EL_p dB (mB ▸ P_build (vs := [(0, .int .i64 (o0)), (1, .int .i64 (l5))]) [[.int .i64 0], [.int .i64 0]] lay_231 rfl rfl (.cons rfl (.cons rfl .nil)) ⟨⟨_, rfl, rfl⟩, ⟨⟨_, rfl, rfl⟩, trivial⟩⟩) rfl ?_
     refine EL_do .plain rfl (D_buildSlice (g := l8) 3018 (xs := ([(⟨o0, l5⟩ : EyeThread)] : List EyeThread)) (vs := [dB]) Tryd.underlying225 Tryd.sizeOf231 Tryd.zeroValue231 rfl rfl (.cons rfl .nil) (RVs.cons aB RVs.nil) rfl rfl fun yB gD iD hs o37 zB hxt hfl => ?_)
     have hfr := hfr.stp hs
     have x5 := x5.stp hs
     have i6 := i6.stp hs rfl
     have u3 := u3.stp hs
     obtain ⟨yA, nB, h⟩ := bsome h
     refine EL_do .plain rfl (D_append (g := yB) (i := 1002) Tryd.underlying225 info_231 rfl rfl i6 x5 rfl zB nB fun cC jD iB hs o38 mC _ => ?_)
     have hfr := hfr.stp hs
     have u3 := u3.stp hs
     refine EL_at iB rfl rfl ?_
     refine EL_nil (blk_n ?_)
     obtain rfl := sinj h
     exact hQ _ _ ⟨cC, (iB), hfr, rfl, mC, o38, g8, u3, k8, x6⟩
    ·refine E_cf n8 rfl ?_
     refine E_skip (blk_n ?_)
     obtain rfl := sinj h
     exact hQ _ _ ⟨l8, (r8), hfr, m7, x5, i6, g8, u3, k8, x6⟩
   ·clear hx
    obtain ⟨qC, a9, hfr, d9, k9, l9, n9, u9, y9, z9⟩ := hR
    refine E_region (EL_in (.int .i64 ((w64 (o0 + (1 : Int))))) z9 rfl rfl rfl ?_)
    refine EL_mw (.int .i64 ((w64 (o0 + (1 : Int))))) rfl rfl ?_
    exact EL_nil (thn_n (lB (t5, (w64 (o0 + (1 : Int)))) _ _ ⟨qC, (a9), hfr, d9, k9, l9, n9, u9, y9, rfl⟩ h))
  ·refine E_cf m8 rfl ?_
   refine E_exit ?_
   refine thn_e ?_
   refine thn_e ?_
   refine blk_hit ?_
   obtain rfl := sinj h
   exact hQ _ _ ⟨l8, (r8), hfr, m7, x5, i6⟩
 ·clear hx
  obtain ⟨lD, v8, hfr, bA, iA, rC⟩ := hR
  refine E_seq (E_region (EL_mv bA rfl ?_))
  refine EL_at v8 rfl rfl ?_
  refine EL_nil (thn_n (E_ret ?_))
  obtain rfl := sinj h
  exact end1 rfl rfl (show _ = v8 from rfl) ⟨_, hfr, iA⟩
def f120 (x0 : EyeThread) (x1 : EyeThread) : Option (Bool) :=
 some ((decide ((x0).eye ≥ (x1).eye)))
theorem en120 : Enters Tryd.prog 120 := enters_of Tryd.func120 (by kernel_rfl) rfl
theorem wk120 {gI : Gh} {wI : World} {x0 : EyeThread} {x1 : EyeThread} {up0 : Value} (rp0 : RV gI.m wI x0 up0) {up1 : Value} (rp1 : RV gI.m wI x1 up1) {r : Bool} (h : f120 x0 x1 = some r) : Fn Tryd.prog 120 #[up0, up1] gI wI (fun _ _ v => v = .bool (r)) := by
 unfold f120 at h
 refine fn_of_E Tryd.func120 rfl (Nat.le_of_ble_eq_true rfl) fun g0 hm hfr => ?_
 have rp0 : RV g0.m wI x0 up0 := hm ▸ rp0
 have rp1 : RV g0.m wI x1 up1 := hm ▸ rp1
 show E _ 10 none _ _ _ _ _
 refine E_seq (E_region (EL_do .plain rfl (D_box (g := g0) rfl rp0 fun g1 w1 p1 hs q1 => ?_)))
 have hfr := hfr.ext hs
 have rp1 := rp1.ext hs
 refine EL_do .plain rfl (D_box (g := g1) rfl rp1 fun g2 w2 p2 hs q2 => ?_)
 have hfr := hfr.ext hs
 have q1 := q1.ext hs
 refine EL_at (.bool false) rfl rfl ?_
 refine EL_nil (thn_n (E_seq (E_region (EL_p (fPtr p1 1) (P_fieldAddr at_231_1 rfl (PT.ptr q1)) rfl ?_))))
 have q3 := PT_field (part_EyeThread_1).1 q1
 refine EL_do .plain rfl (D_load (g := g2) Tryd.isAgg3 Tryd.sizeOf3 rfl q3 fun v4 r4 => ?_)
 obtain rfl := RV_int.1 r4
 refine EL_p (fPtr p2 1) (P_fieldAddr at_231_1 rfl (PT.ptr q2)) rfl ?_
 have q5 := PT_field (part_EyeThread_1).1 q2
 refine EL_do .plain rfl (D_load (g := g2) Tryd.isAgg3 Tryd.sizeOf3 rfl q5 fun v6 r6 => ?_)
 obtain rfl := RV_int.1 r6
 refine EL_in (.bool ((decide ((x0).eye ≥ (x1).eye)))) rfl rfl rfl rfl ?_
 refine EL_at (.bool ((decide ((x0).eye ≥ (x1).eye)))) rfl rfl ?_
 refine EL_nil (thn_n (E_ret ?_))
 obtain rfl := sinj h
 exact end1 rfl rfl (show _ = .bool ((decide ((x0).eye ≥ (x1).eye))) from rfl) ⟨_, hfr, rfl⟩
def f127 (x0 : Int) (z0 : Int) (z1 : Int) : Option (Bool) :=
 Option.bind (α := Bool) (
  bif (decide (x0 < z0)) then
   some (true)
  else
   some ((decide (x0 > z1)))
  ) fun o0 =>
 some (o0)
theorem en127 : Enters Tryd.prog 127 := enters_of Tryd.func127 (by kernel_rfl) rfl
theorem wk127 {gI : Gh} {wI : World} {x0 : Int} {z0 : Int} {z1 : Int} {pf0 : Value} (qf0 : PT gI.m wI z0 pf0) {pf1 : Value} (qf1 : PT gI.m wI z1 pf1) {r : Bool} (h : f127 x0 z0 z1 = some r) : Fn Tryd.prog 127 #[.int .i64 (x0), pf0, pf1] gI wI (fun _ _ v => v = .bool (r)) := by
 unfold f127 at h
 refine fn_of_E Tryd.func127 rfl (Nat.le_of_ble_eq_true rfl) fun g0 hm hfr => ?_
 have qf0 : PT g0.m wI z0 pf0 := hm ▸ qf0
 have qf1 : PT g0.m wI z1 pf1 := hm ▸ qf1
 show E _ 13 none _ _ _ _ _
 refine E_seq (E_region (EL_at (.bool false) rfl rfl ?_))
 refine EL_nil (thn_n ?_)
 obtain ⟨o0, hx, h⟩ := bsome h
 refine E_join (fun e w => ∃ (g : Gh) , Fr gI wI g w ∧ e 4 = .bool (o0)) (fun Q' hQ => ?_) (fun l5 w7 hR => ?_)
 ·replace h := hx
  clear hx
  refine E_region (EL_mw (.int .i64 (x0)) rfl rfl ?_)
  refine EL_do .plain rfl (D_load (g := g0) Tryd.isAgg3 Tryd.sizeOf3 rfl qf0 fun v4 r4 => ?_)
  obtain rfl := RV_int.1 r4
  refine EL_in (.bool ((decide (x0 < z0)))) rfl rfl rfl rfl ?_
  refine EL_mw (.bool ((decide (x0 < z0)))) rfl rfl ?_
  rcases csome h with ⟨hc5, h⟩ | ⟨hc5, h⟩
  ·refine EL_s rfl rfl hc5 rfl rfl ?_
   refine EL_s rfl rfl hc5 rfl rfl ?_
   refine EL_s rfl rfl hc5 rfl rfl ?_
   refine EL_p (.bool true) (P_pick (b := (decide (x0 < z0))) rfl (pick_t hc5 rfl)) rfl ?_
   refine EL_at (.bool true) rfl rfl ?_
   refine EL_nil ?_
   obtain rfl := sinj h
   exact hQ _ _ ⟨g0, hfr, rfl⟩
  ·refine EL_y (.int .i64 (x0)) (P_move rfl) rfl rfl hc5 rfl ?_
   refine EL_do (.yes2 rfl rfl hc5) rfl (D_load (g := g0) Tryd.isAgg3 Tryd.sizeOf3 rfl qf1 fun v6 r6 => ?_)
   obtain rfl := RV_int.1 r6
   refine EL_y (.bool ((decide (x0 > z1)))) (P_int rfl rfl rfl) rfl rfl hc5 rfl ?_
   refine EL_p (.bool ((decide (x0 > z1)))) (P_pick (b := (decide (x0 < z0))) rfl (pick_f hc5 rfl)) rfl ?_
   refine EL_at (.bool ((decide (x0 > z1)))) rfl rfl ?_
   refine EL_nil ?_
   obtain rfl := sinj h
   exact hQ _ _ ⟨g0, hfr, rfl⟩
 ·clear hx
  obtain ⟨g7, hfr, u3⟩ := hR
  refine E_ret ?_
  obtain rfl := sinj h
  exact end1 rfl rfl (show _ = .bool (o0) from u3) ⟨_, hfr, rfl⟩
def f147 (x0 : List Int) (x1 : Int → Option Bool) : Option (Int) :=
 jn (σ := Unit) (fun _ =>
  some ((-1 : Int))
  ) fun k18 =>
 lp (σ := Int) (fun k19 o0 =>
  bif (decide (o0 < ((x0).length : Int))) then
   jn (σ := Unit) (fun _ =>
    k19 ((w64 (o0 + (1 : Int))))
    ) fun k28 =>
   (idx x0 o0).bind fun i7 =>
   (x1 i7).bind fun v8 =>
   bif v8 then
    some (o0)
   else
    k28 ()
  else
   k18 ()
  ) big ((0 : Int))
theorem en147 : Enters Tryd.prog 147 := enters_of Tryd.func147 (by kernel_rfl) rfl
theorem wk147 {gI : Gh} {wI : World} {x0 : List Int} {x1 : Int → Option Bool} {up0 : Value} (rp0 : RV gI.m wI x0 up0) {up1 : Value} (rp1 : FnV1 Tryd.prog x1 up1 gI wI) {r : Int} (h : f147 x0 x1 = some r) : Fn Tryd.prog 147 #[up0, up1] gI wI (fun _ _ v => v = .int .i64 (r)) := by
 unfold f147 at h
 refine fn_of_E Tryd.func147 rfl (Nat.le_of_ble_eq_true rfl) fun g0 hm hfr => ?_
 have rp0 : RV g0.m wI x0 up0 := hm ▸ rp0
 obtain ⟨ff1, fa1, fc1, rfl, fen1, fcl1⟩ := rp1
 show E _ 19 none _ _ _ _ _
 refine E_seq (E_region (EL_at (.int .i64 (0)) rfl rfl ?_))
 refine EL_nil (thn_n (E_joinC h (fun (s : Unit) e w => ∃ (g : Gh) , Fr gI wI g w) (fun X18 k18 x8 h => ?_) ?_))
 ·refine E_seq (E_region (EL_mw up0 rfl rfl ?_))
  refine EL_p (.int .i64 ((x0).length : Int)) (P_len Tryd.underlying34 rfl rp0) rfl ?_
  refine EL_mw (.int .i64 (0)) rfl rfl ?_
  refine EL_nil (thn_n (E_block ?_))
  refine E_lp h (fun (s : Int) e w => ∃ (g : Gh) , Fr gI wI g w ∧ e 0 = up0 ∧ RV g.m w (x0 : List Int) up0 ∧ e 1 = (.func (.func ff1) fa1 fc1) ∧ e 7 = .int .i64 (((x0).length : Int)) ∧ e 8 = .int .i64 (s)) ⟨g0, hfr, rfl, rp0, rfl, rfl, rfl⟩ (fun X19 k19 a9 => ?_)
  rintro o0 z9 rA ⟨m7, hfr, i6, u3, x6, y6, l5⟩ h
  refine E_seq (E_region (EL_in (.bool ((decide (o0 < ((x0).length : Int))))) l5 y6 rfl rfl ?_))
  refine EL_nil (thn_n (E_seq ?_))
  rcases csome h with ⟨t5, h⟩ | ⟨t5, h⟩
  ·refine E_ct t5 rfl ?_
   refine E_skip (thn_n (E_joinC h (fun (s : Unit) e w => ∃ (g : Gh) , Fr gI wI g w ∧ e 0 = up0 ∧ RV g.m w (x0 : List Int) up0 ∧ e 1 = (.func (.func ff1) fa1 fc1) ∧ e 7 = .int .i64 (((x0).length : Int)) ∧ e 8 = .int .i64 (o0)) (fun X28 k28 d9 h => ?_) ?_))
   ·refine E_block ?_
    refine E_seq (E_region (EL_mv l5 rfl ?_))
    refine EL_at (.int .i64 (o0)) rfl rfl ?_
    refine EL_nil (thn_n (E_seq (E_region (EL_mv x6 rfl ?_))))
    refine EL_mv i6 rfl ?_
    refine EL_mw (.int .i64 (o0)) rfl rfl ?_
    obtain ⟨i7, g8, h⟩ := bsome h
    refine EL_p (ePtr up0 o0 1) (P_indexAddr (α := Int) Tryd.underlying34 Tryd.sizeOf3 rfl u3 rfl g8) rfl ?_
    have l9 := PT_idx u3 g8
    refine EL_do .plain rfl (D_load (g := m7) Tryd.isAgg3 Tryd.sizeOf3 rfl l9 fun yA n9 => ?_)
    obtain rfl := RV_int.1 n9
    obtain ⟨v8, k9, h⟩ := bsome h
    refine EL_do .plain rfl (D_callv (g := m7) (vs := [.int .i64 (i7)]) rfl fen1 (.cons rfl .nil) (fcl1 _ _ hfr.ch _ _ _  (RV_int.2 rfl) k9) fun u9 aB dB hs hr => ?_)
    have hfr := hfr.ext hs
    have u3 := u3.ext hs
    obtain rfl := RV_bool.1 hr
    refine EL_nil (thn_n ?_)
    rcases csome h with ⟨x5, h⟩ | ⟨x5, h⟩
    ·refine E_ct x5 rfl ?_
     refine E_seq (E_region (EL_mw (.int .i64 (o0)) rfl rfl ?_))
     refine EL_at (.int .i64 (o0)) rfl rfl ?_
     refine EL_nil (thn_n (E_ret (blk_r ?_)))
     refine thn_r ?_
     refine thn_r ?_
     refine blk_r ?_
     refine thn_r ?_
     obtain rfl := sinj h
     exact end1 rfl rfl (show _ = .int .i64 (o0) from rfl) ⟨_, hfr, rfl⟩
    ·refine E_cf x5 rfl ?_
     exact E_skip (blk_n (thn_n (d9 () _ _ ⟨u9, hfr, i6, u3, x6, y6, l5⟩ h)))
   ·rintro _ bA iB ⟨y9, hfr, k8, l8, m8, n8, r8⟩ h
    refine E_region (EL_in (.int .i64 ((w64 (o0 + (1 : Int))))) r8 rfl rfl rfl ?_)
    refine EL_mw (.int .i64 ((w64 (o0 + (1 : Int))))) rfl rfl ?_
    exact EL_nil (thn_n (a9 ((w64 (o0 + (1 : Int)))) _ _ ⟨y9, hfr, k8, l8, m8, n8, rfl⟩ h))
  ·refine E_cf t5 rfl ?_
   refine E_exit ?_
   refine thn_e ?_
   refine thn_e ?_
   refine blk_hit ?_
   exact thn_n (x8 () _ _ ⟨m7, hfr⟩ h)
 ·rintro _ iA lB ⟨mB, hfr⟩ h
  refine E_seq (E_region (EL_at (.int .i64 (-1)) rfl rfl ?_))
  refine EL_nil (thn_n (E_ret ?_))
  obtain rfl := sinj h
  exact end1 rfl rfl (show _ = .int .i64 (-1) from rfl) ⟨_, hfr, rfl⟩
def f154 (x0 : Int) (z0 : Int) (z1 : Int) : Option (Bool) :=
 Option.bind (α := Bool) (
  bif (decide (x0 < z0)) then
   some (true)
  else
   some ((decide (x0 > z1)))
  ) fun o0 =>
 some (o0)
theorem en154 : Enters Tryd.prog 154 := enters_of Tryd.func154 (by kernel_rfl) rfl
theorem wk154 {gI : Gh} {wI : World} {x0 : Int} {z0 : Int} {z1 : Int} {pf0 : Value} (qf0 : PT gI.m wI z0 pf0) {pf1 : Value} (qf1 : PT gI.m wI z1 pf1) {r : Bool} (h : f154 x0 z0 z1 = some r) : Fn Tryd.prog 154 #[.int .i64 (x0), pf0, pf1] gI wI (fun _ _ v => v = .bool (r)) := by
 unfold f154 at h
 refine fn_of_E Tryd.func154 rfl (Nat.le_of_ble_eq_true rfl) fun g0 hm hfr => ?_
 have qf0 : PT g0.m wI z0 pf0 := hm ▸ qf0
 have qf1 : PT g0.m wI z1 pf1 := hm ▸ qf1
 show E _ 13 none _ _ _ _ _
 refine E_seq (E_region (EL_at (.bool false) rfl rfl ?_))
 refine EL_nil (thn_n ?_)
 obtain ⟨o0, hx, h⟩ := bsome h
 refine E_join (fun e w => ∃ (g : Gh) , Fr gI wI g w ∧ e 4 = .bool (o0)) (fun Q' hQ => ?_) (fun l5 w7 hR => ?_)
 ·replace h := hx
  clear hx
  refine E_region (EL_mw (.int .i64 (x0)) rfl rfl ?_)
  refine EL_do .plain rfl (D_load (g := g0) Tryd.isAgg3 Tryd.sizeOf3 rfl qf0 fun v4 r4 => ?_)
  obtain rfl := RV_int.1 r4
  refine EL_in (.bool ((decide (x0 < z0)))) rfl rfl rfl rfl ?_
  refine EL_mw (.bool ((decide (x0 < z0)))) rfl rfl ?_
  rcases csome h with ⟨hc5, h⟩ | ⟨hc5, h⟩
  ·refine EL_s rfl rfl hc5 rfl rfl ?_
   refine EL_s rfl rfl hc5 rfl rfl ?_
   refine EL_s rfl rfl hc5 rfl rfl ?_
   refine EL_p (.bool true) (P_pick (b := (decide (x0 < z0))) rfl (pick_t hc5 rfl)) rfl ?_
   refine EL_at (.bool true) rfl rfl ?_
   refine EL_nil ?_
   obtain rfl := sinj h
   exact hQ _ _ ⟨g0, hfr, rfl⟩
  ·refine EL_y (.int .i64 (x0)) (P_move rfl) rfl rfl hc5 rfl ?_
   refine EL_do (.yes2 rfl rfl hc5) rfl (D_load (g := g0) Tryd.isAgg3 Tryd.sizeOf3 rfl qf1 fun v6 r6 => ?_)
   obtain rfl := RV_int.1 r6
   refine EL_y (.bool ((decide (x0 > z1)))) (P_int rfl rfl rfl) rfl rfl hc5 rfl ?_
   refine EL_p (.bool ((decide (x0 > z1)))) (P_pick (b := (decide (x0 < z0))) rfl (pick_f hc5 rfl)) rfl ?_
   refine EL_at (.bool ((decide (x0 > z1)))) rfl rfl ?_
   refine EL_nil ?_
   obtain rfl := sinj h
   exact hQ _ _ ⟨g0, hfr, rfl⟩
 ·clear hx
  obtain ⟨g7, hfr, u3⟩ := hR
  refine E_ret ?_
  obtain rfl := sinj h
  exact end1 rfl rfl (show _ = .bool (o0) from u3) ⟨_, hfr, rfl⟩
def f164 (x0 : Int) (z0 : Int) (z1 : Int) : Option (Bool) :=
 Option.bind (α := Bool) (
  bif (decide (x0 < z0)) then
   some (true)
  else
   some ((decide (x0 > z1)))
  ) fun o0 =>
 some (o0)
theorem en164 : Enters Tryd.prog 164 := enters_of Tryd.func164 (by kernel_rfl) rfl
theorem wk164 {gI : Gh} {wI : World} {x0 : Int} {z0 : Int} {z1 : Int} {pf0 : Value} (qf0 : PT gI.m wI z0 pf0) {pf1 : Value} (qf1 : PT gI.m wI z1 pf1) {r : Bool} (h : f164 x0 z0 z1 = some r) : Fn Tryd.prog 164 #[.int .i64 (x0), pf0, pf1] gI wI (fun _ _ v => v = .bool (r)) := by
 unfold f164 at h
 refine fn_of_E Tryd.func164 rfl (Nat.le_of_ble_eq_true rfl) fun g0 hm hfr => ?_
 have qf0 : PT g0.m wI z0 pf0 := hm ▸ qf0
 have qf1 : PT g0.m wI z1 pf1 := hm ▸ qf1
 show E _ 13 none _ _ _ _ _
 refine E_seq (E_region (EL_at (.bool false) rfl rfl ?_))
 refine EL_nil (thn_n ?_)
 obtain ⟨o0, hx, h⟩ := bsome h
 refine E_join (fun e w => ∃ (g : Gh) , Fr gI wI g w ∧ e 4 = .bool (o0)) (fun Q' hQ => ?_) (fun l5 w7 hR => ?_)
 ·replace h := hx
  clear hx
  refine E_region (EL_mw (.int .i64 (x0)) rfl rfl ?_)
  refine EL_do .plain rfl (D_load (g := g0) Tryd.isAgg3 Tryd.sizeOf3 rfl qf0 fun v4 r4 => ?_)
  obtain rfl := RV_int.1 r4
  refine EL_in (.bool ((decide (x0 < z0)))) rfl rfl rfl rfl ?_
  refine EL_mw (.bool ((decide (x0 < z0)))) rfl rfl ?_
  rcases csome h with ⟨hc5, h⟩ | ⟨hc5, h⟩
  ·refine EL_s rfl rfl hc5 rfl rfl ?_
   refine EL_s rfl rfl hc5 rfl rfl ?_
   refine EL_s rfl rfl hc5 rfl rfl ?_
   refine EL_p (.bool true) (P_pick (b := (decide (x0 < z0))) rfl (pick_t hc5 rfl)) rfl ?_
   refine EL_at (.bool true) rfl rfl ?_
   refine EL_nil ?_
   obtain rfl := sinj h
   exact hQ _ _ ⟨g0, hfr, rfl⟩
  ·refine EL_y (.int .i64 (x0)) (P_move rfl) rfl rfl hc5 rfl ?_
   refine EL_do (.yes2 rfl rfl hc5) rfl (D_load (g := g0) Tryd.isAgg3 Tryd.sizeOf3 rfl qf1 fun v6 r6 => ?_)
   obtain rfl := RV_int.1 r6
   refine EL_y (.bool ((decide (x0 > z1)))) (P_int rfl rfl rfl) rfl rfl hc5 rfl ?_
   refine EL_p (.bool ((decide (x0 > z1)))) (P_pick (b := (decide (x0 < z0))) rfl (pick_f hc5 rfl)) rfl ?_
   refine EL_at (.bool ((decide (x0 > z1)))) rfl rfl ?_
   refine EL_nil ?_
   obtain rfl := sinj h
   exact hQ _ _ ⟨g0, hfr, rfl⟩
 ·clear hx
  obtain ⟨g7, hfr, u3⟩ := hR
  refine E_ret ?_
  obtain rfl := sinj h
  exact end1 rfl rfl (show _ = .bool (o0) from u3) ⟨_, hfr, rfl⟩
def f165 (z0 : List Int) (σ : Type) (cons : Cons σ (Int × Int)) (s0 : σ) : Option σ :=
 lp (σ := σ × Int) (fun k2 (u3, o0) =>
  jn (σ := Unit) (fun _ =>
   jn (σ := σ) (fun l5 =>
    k2 (l5, (w64 (o0 - (1 : Int))))
    ) fun x8 =>
   (idx z0 o0).bind fun i7 =>
   (cons u3 (o0, i7)).bind fun (i6, t5) =>
   bif (!i6) then
    some t5
   else
    x8 (t5)
   ) fun k5 =>
  bif (decide (o0 ≥ (0 : Int))) then
   k5 ()
  else
   some u3
  ) big (s0, (w64 (((z0).length : Int) - (1 : Int))))
theorem en165 : Enters Tryd.prog 165 := enters_of Tryd.func165 (by kernel_rfl) rfl
theorem wk165 {σ : Type} {cons : Cons σ (Int × Int)} {s0 r : σ} {gI : Gh} {wI : World} {z0 : List Int} {pf0 : Value} (qf0 : PT gI.m wI z0 pf0) (h : f165 z0 σ cons s0 = some r) : IterC Tryd.prog (RA2 (α := Int) (β := Int)) 165 #[] #[pf0] gI wI cons s0 r := by
 unfold f165 at h
 refine iter_of_E Tryd.func165 rfl (Nat.le_of_ble_eq_true rfl) fun l B J g0 hm hAb hRo hfr => ?_
 have qf0 : PT g0.m wI z0 pf0 := hm ▸ qf0
 show E _ 19 none _ _ (envAt #[.func (.yield l) #[] #[], pf0]) _ _
 refine E_seq (E_region (EL_do .plain rfl (D_load (g := g0) Tryd.isAgg34 Tryd.sizeOf34 rfl qf0 fun v1 r1 => ?_)))
 refine EL_p (.int .i64 ((z0).length : Int)) (P_len Tryd.underlying34 rfl r1) rfl ?_
 refine EL_in (.int .i64 ((w64 (((z0).length : Int) - (1 : Int))))) rfl rfl rfl rfl ?_
 refine EL_at (.int .i64 ((w64 (((z0).length : Int) - (1 : Int))))) rfl rfl ?_
 refine EL_nil (thn_n (E_block ?_))
 refine E_lp h (fun (s : σ × Int) e w => ∃ (g : Gh) , FrY gI wI B J (s.1) g w ∧ e 0 = (.func (.yield l) #[] #[]) ∧ e 1 = pf0 ∧ PT g.m w (z0 : List Int) pf0 ∧ e 3 = .int .i64 (s.2)) ⟨g0, hfr, rfl, rfl, qf0, rfl⟩ (fun X2 k2 hk2 => ?_)
 rintro ⟨u3, o0⟩ dB w3 ⟨g3, hfr, d9, k9, l9, m7⟩ h
 refine E_joinC h (fun (s : Unit) e w => ∃ (g : Gh) , FrY gI wI B J (u3) g w ∧ e 0 = (.func (.yield l) #[] #[]) ∧ e 1 = pf0 ∧ PT g.m w (z0 : List Int) pf0 ∧ e 3 = .int .i64 (o0)) (fun X5 k5 hk5 h => ?_) ?_
 ·refine E_seq (E_region (EL_mv m7 rfl ?_))
  refine EL_in (.bool ((decide (o0 ≥ (0 : Int))))) rfl rfl rfl rfl ?_
  refine EL_nil (thn_n ?_)
  rcases csome h with ⟨hc6, h⟩ | ⟨hc6, h⟩
  ·refine E_ct hc6 rfl ?_
   exact E_skip (thn_n (hk5 () _ _ ⟨g3, hfr, d9, k9, l9, m7⟩ h))
  ·refine E_cf hc6 rfl ?_
   refine E_exit ?_
   refine thn_e ?_
   refine thn_e ?_
   refine blk_hit ?_
   obtain rfl := sinj h
   exact end0n rfl rfl (FrY.done hfr)
 ·rintro _ iB w7 ⟨g7, hfr, g8, k8, x5, x6⟩ h
  refine E_joinC h (fun (s : σ) e w => ∃ (g : Gh) , FrY gI wI B J (s) g w ∧ e 0 = (.func (.yield l) #[] #[]) ∧ e 1 = pf0 ∧ PT g.m w (z0 : List Int) pf0 ∧ e 3 = .int .i64 (o0)) (fun X15 x8 n9 h => ?_) ?_
  ·refine E_block ?_
   refine E_seq (E_region (EL_mv g8 rfl ?_))
   refine EL_mv x6 rfl ?_
   refine EL_do .plain rfl (D_load (g := g7) Tryd.isAgg34 Tryd.sizeOf34 k8 x5 fun y9 a9 => ?_)
   refine EL_mv x6 rfl ?_
   obtain ⟨i7, l8, h⟩ := bsome h
   refine EL_p (ePtr y9 o0 1) (P_indexAddr (α := Int) Tryd.underlying34 Tryd.sizeOf3 rfl a9 rfl l8) rfl ?_
   have z9 := PT_idx a9 l8
   refine EL_do .plain rfl (D_load (g := g7) Tryd.isAgg3 Tryd.sizeOf3 rfl z9 fun lB bA => ?_)
   obtain rfl := RV_int.1 bA
   obtain ⟨iA, u9, h⟩ := bsome h
   obtain ⟨i6, t5⟩ := iA
   refine EL_do .plain rfl (D_yield (g := g7) (x := (o0, i7)) rfl (.cons rfl (.cons rfl .nil)) hRo hfr u9 ⟨_, _, rfl, (RV_int.2 rfl), (RV_int.2 rfl)⟩ fun rA mB hs hfrY => ?_)
   have x5 := x5.stp hs
   have hfr := hfrY
   clear hfrY
   refine EL_p (.bool (!i6)) (P_not rfl) rfl ?_
   refine EL_nil (thn_n ?_)
   rcases csome h with ⟨y6, h⟩ | ⟨y6, h⟩
   ·refine E_ct y6 rfl ?_
    refine E_ret (blk_r ?_)
    refine thn_r ?_
    refine thn_r ?_
    refine blk_r ?_
    obtain rfl := sinj h
    exact end0 rfl rfl (FrY.done hfr)
   ·refine E_cf y6 rfl ?_
    exact E_skip (blk_n (thn_n (n9 (t5) _ _ ⟨rA, hfr, g8, k8, x5, x6⟩ h)))
  ·rintro l5 aB nB ⟨yA, hfr, m8, n8, r8, v8⟩ h
   refine E_region (EL_mv v8 rfl ?_)
   refine EL_in (.int .i64 ((w64 (o0 - (1 : Int))))) rfl rfl rfl rfl ?_
   refine EL_at (.int .i64 ((w64 (o0 - (1 : Int))))) rfl rfl ?_
   exact EL_nil (thn_n (hk2 (l5, (w64 (o0 - (1 : Int)))) _ _ ⟨yA, hfr, m8, n8, r8, rfl⟩ h))
def f167 (x0 : List Int) : Option (Int) :=
 Option.bind (α := Unit) (
  bif (decide (((x0).length : Int) < (1 : Int))) then
   none
  else
   some ()
  ) fun (_ : Unit) =>
 (idx x0 (0 : Int)).bind fun y4 =>
 Option.bind (α := Int) (
  lp (σ := Int × Int) (fun n9 (u3, o0) =>
   jn (σ := Unit) (fun _ =>
    Option.bind (α := Int) (
     (idx x0 o0).bind fun y6 =>
     some ((max64 u3 y6))
     ) fun t5 =>
    n9 (t5, (w64 (o0 + (1 : Int))))
    ) fun u9 =>
   bif (decide (o0 < ((x0).length : Int))) then
    u9 ()
   else
    some (u3)
   ) big (y4, (1 : Int))
  ) fun l5 =>
 some (l5)
theorem en167 : Enters Tryd.prog 167 := enters_of Tryd.func167 (by kernel_rfl) rfl
theorem wk167 {gI : Gh} {wI : World} {x0 : List Int} {up0 : Value} (rp0 : RV gI.m wI x0 up0) {r : Int} (h : f167 x0 = some r) : Fn Tryd.prog 167 #[up0] gI wI (fun _ _ v => v = .int .i64 (r)) := by
 unfold f167 at h
 refine fn_of_E Tryd.func167 rfl (Nat.le_of_ble_eq_true rfl) fun g0 hm hfr => ?_
 have rp0 : RV g0.m wI x0 up0 := hm ▸ rp0
 show E _ 25 none _ _ _ _ _
 refine E_seq (E_region (EL_at (.int .i64 (0)) rfl rfl ?_))
 refine EL_nil (thn_n ?_)
 obtain ⟨_, hx, h⟩ := bsome h
 refine E_join (fun e w => ∃ (g : Gh) , Fr gI wI g w ∧ e 0 = up0 ∧ RV g.m w (x0 : List Int) up0) (fun Q' hQ => ?_) (fun oB w3 hR => ?_)
 ·replace h := hx
  clear hx
  refine E_seq (E_region (EL_mw up0 rfl rfl ?_))
  refine EL_p (.int .i64 ((x0).length : Int)) (P_len Tryd.underlying34 rfl rp0) rfl ?_
  refine EL_in (.bool ((decide (((x0).length : Int) < (1 : Int))))) rfl rfl rfl rfl ?_
  refine EL_nil (thn_n ?_)
  rcases csome h with ⟨hc2, h⟩ | ⟨hc2, h⟩
  ·refine E_ct hc2 rfl ?_
   refine E_region ?_
   cases h
  ·refine E_cf hc2 rfl ?_
   refine E_skip ?_
   obtain rfl := sinj h
   exact hQ _ _ ⟨g0, hfr, rfl, rp0⟩
 ·clear hx
  obtain ⟨g3, hfr, n8, i6⟩ := hR
  refine E_seq (E_region (EL_mv n8 rfl ?_))
  obtain ⟨y4, y9, h⟩ := bsome h
  refine EL_p (ePtr up0 (0 : Int) 1) (P_indexAddr (α := Int) Tryd.underlying34 Tryd.sizeOf3 rfl i6 rfl y9) rfl ?_
  have q5 := PT_idx i6 y9
  refine EL_do .plain rfl (D_load (g := g3) Tryd.isAgg3 Tryd.sizeOf3 rfl q5 fun v6 r6 => ?_)
  obtain rfl := RV_int.1 r6
  refine EL_at (.int .i64 (y4)) rfl rfl ?_
  refine EL_nil (thn_n ?_)
  obtain ⟨l5, hx, h⟩ := bsome h
  refine E_join (fun e w => ∃ (g : Gh) , Fr gI wI g w ∧ e 3 = .int .i64 (l5)) (fun Q' hQ => ?_) (fun iB tB hR => ?_)
  ·replace h := hx
   clear hx
   refine E_seq (E_region (EL_at (.int .i64 (1)) rfl rfl ?_))
   refine EL_nil (thn_n (E_block ?_))
   refine E_lp h (fun (s : Int × Int) e w => ∃ (g : Gh) , Fr gI wI g w ∧ e 0 = up0 ∧ RV g.m w (x0 : List Int) up0 ∧ e 3 = .int .i64 (s.1) ∧ e 4 = .int .i64 (s.2)) ⟨g3, hfr, n8, i6, rfl, rfl⟩ (fun X20 n9 iA => ?_)
   rintro ⟨u3, o0⟩ lB vB ⟨z9, hfr, i7, m7, g8, k8⟩ h
   refine E_joinC h (fun (s : Unit) e w => ∃ (g : Gh) , Fr gI wI g w ∧ e 0 = up0 ∧ RV g.m w (x0 : List Int) up0 ∧ e 3 = .int .i64 (u3) ∧ e 4 = .int .i64 (o0)) (fun X23 u9 rA h => ?_) ?_
   ·refine E_seq (E_region (EL_mv k8 rfl ?_))
    refine EL_mv i7 rfl ?_
    refine EL_p (.int .i64 ((x0).length : Int)) (P_len Tryd.underlying34 rfl m7) rfl ?_
    refine EL_in (.bool ((decide (o0 < ((x0).length : Int))))) rfl rfl rfl rfl ?_
    refine EL_nil (thn_n ?_)
    rcases csome h with ⟨x6, h⟩ | ⟨x6, h⟩
    ·refine E_ct x6 rfl ?_
     exact E_skip (thn_n (rA () _ _ ⟨z9, hfr, i7, m7, g8, k8⟩ h))
    ·refine E_cf x6 rfl ?_
     refine E_exit ?_
     refine thn_e ?_
     refine thn_e ?_
     refine blk_hit ?_
     obtain rfl := sinj h
     exact hQ _ _ ⟨z9, hfr, g8⟩
   ·rintro _ mB yB ⟨bA, hfr, l8, x5, v8, m8⟩ h
    obtain ⟨t5, hx, h⟩ := bsome h
    refine E_join (fun e w => ∃ (g : Gh) , Fr gI wI g w ∧ e 0 = up0 ∧ RV g.m w (x0 : List Int) up0 ∧ e 3 = .int .i64 (t5) ∧ e 4 = .int .i64 (o0)) (fun Q' hQ => ?_) (fun nB zB hR => ?_)
    ·replace h := hx
     clear hx
     refine E_block ?_
     refine E_region (EL_mv v8 rfl ?_)
     refine EL_mv l8 rfl ?_
     refine EL_mv m8 rfl ?_
     obtain ⟨y6, r8, h⟩ := bsome h
     refine EL_p (ePtr up0 o0 1) (P_indexAddr (α := Int) Tryd.underlying34 Tryd.sizeOf3 rfl x5 rfl r8) rfl ?_
     have yA := PT_idx x5 r8
     refine EL_do .plain rfl (D_load (g := bA) Tryd.isAgg3 Tryd.sizeOf3 rfl yA fun cC aB => ?_)
     obtain rfl := RV_int.1 aB
     refine EL_p (.int .i64 (max64 u3 y6)) (P_max rfl rfl) rfl ?_
     refine EL_at (.int .i64 (max64 u3 y6)) rfl rfl ?_
     refine EL_nil (blk_n ?_)
     obtain rfl := sinj h
     exact hQ _ _ ⟨bA, hfr, l8, x5, rfl, m8⟩
    ·clear hx
     obtain ⟨dB, hfr, x8, a9, d9, k9⟩ := hR
     refine E_region (EL_mv k9 rfl ?_)
     refine EL_in (.int .i64 ((w64 (o0 + (1 : Int))))) rfl rfl rfl rfl ?_
     refine EL_at (.int .i64 ((w64 (o0 + (1 : Int))))) rfl rfl ?_
     exact EL_nil (thn_n (iA (t5, (w64 (o0 + (1 : Int)))) _ _ ⟨dB, hfr, x8, a9, d9, rfl⟩ h))
  ·clear hx
   obtain ⟨mC, hfr, l9⟩ := hR
   refine E_seq (E_region (EL_mv l9 rfl ?_))
   refine EL_at (.int .i64 (l5)) rfl rfl ?_
   refine EL_nil (thn_n (E_ret ?_))
   obtain rfl := sinj h
   exact end1 rfl rfl (show _ = .int .i64 (l5) from rfl) ⟨_, hfr, rfl⟩
def f168 (x0 : Str) (x1 : UInt8) : Option (Str) :=
 Option.bind (α := Str) (
  lp (σ := Str) (fun k18 o0 =>
   jn (σ := Unit) (fun _ =>
    (cut (o0).b (1 : Int) ((o0).b.length : Int)).bind fun x6 =>
    k18 ((⟨x6⟩ : Str))
    ) fun r8 =>
   Option.bind (α := Bool) (
    bif (decide (((o0).b.length : Int) > (0 : Int))) then
     (idx (o0).b (0 : Int)).bind fun y6 =>
     some ((y6 == x1))
    else
     some (false)
    ) fun l5 =>
   bif l5 then
    r8 ()
   else
    some (o0)
   ) big (x0)
  ) fun t5 =>
 some (t5)
theorem en168 : Enters Tryd.prog 168 := enters_of Tryd.func168 (by kernel_rfl) rfl
theorem wk168 {gI : Gh} {wI : World} {x0 : Str} {x1 : UInt8}  {r : Str} (h : f168 x0 x1 = some r) : Fn Tryd.prog 168 #[Str.v (x0), .int .u8 (UInt8.toNat (x1))] gI wI (fun _ _ v => v = Str.v (r)) := by
 unfold f168 at h
 refine fn_of_E Tryd.func168 rfl (Nat.le_of_ble_eq_true rfl) fun g0 hm hfr => ?_
 show E _ 17 none _ _ _ _ _
 refine E_seq (E_region (EL_at (Str.v (⟨[]⟩ : Str)) rfl rfl ?_))
 refine EL_nil (thn_n ?_)
 obtain ⟨t5, hx, h⟩ := bsome h
 refine E_join (fun e w => ∃ (g : Gh) , Fr gI wI g w ∧ e 0 = Str.v (t5)) (fun Q' hQ => ?_) (fun u9 iA hR => ?_)
 ·replace h := hx
  clear hx
  refine E_block ?_
  refine E_lp h (fun (s : Str) e w => ∃ (g : Gh) , Fr gI wI g w ∧ e 0 = Str.v (s) ∧ e 1 = .int .u8 (UInt8.toNat (x1))) ⟨g0, hfr, rfl, rfl⟩ (fun X18 k18 a9 => ?_)
  rintro o0 y9 rA ⟨v8, hfr, x5, i6⟩ h
  refine E_joinC h (fun (s : Unit) e w => ∃ (g : Gh) , Fr gI wI g w ∧ e 0 = Str.v (o0) ∧ e 1 = .int .u8 (UInt8.toNat (x1))) (fun X26 r8 d9 h => ?_) ?_
  ·obtain ⟨l5, hx, h⟩ := bsome h
   refine E_join (fun e w => ∃ (g : Gh) , Fr gI wI g w ∧ e 0 = Str.v (o0) ∧ e 1 = .int .u8 (UInt8.toNat (x1)) ∧ e 13 = .bool (l5)) (fun Q' hQ => ?_) (fun z9 yA hR => ?_)
   ·replace h := hx
    clear hx
    refine E_region (EL_mv x5 rfl ?_)
    refine EL_p (.int .i64 ((o0).b.length : Int)) (P_lenS Tryd.underlying9 rfl) rfl ?_
    refine EL_in (.bool ((decide (((o0).b.length : Int) > (0 : Int))))) rfl rfl rfl rfl ?_
    refine EL_mw (.bool ((decide (((o0).b.length : Int) > (0 : Int))))) rfl rfl ?_
    rcases csome h with ⟨u3, h⟩ | ⟨u3, h⟩
    ·refine EL_y (Str.v (o0)) (P_move x5) rfl rfl u3 rfl ?_
     obtain ⟨y6, k9, h⟩ := bsome h
     refine EL_y (.int .u8 (UInt8.toNat (y6))) (P_indexS Tryd.underlying9 rfl rfl k9) rfl rfl u3 rfl ?_
     refine EL_y (.int .u8 (UInt8.toNat (x1))) (P_move i6) rfl rfl u3 rfl ?_
     refine EL_y (.bool ((y6 == x1))) (P_u8 rfl rfl rfl) rfl rfl u3 rfl ?_
     refine EL_p (.bool ((y6 == x1))) (P_pick (b := (decide (((o0).b.length : Int) > (0 : Int)))) rfl (pick_t u3 rfl)) rfl ?_
     refine EL_nil ?_
     obtain rfl := sinj h
     exact hQ _ _ ⟨v8, hfr, x5, i6, rfl⟩
    ·refine EL_s rfl rfl u3 rfl rfl ?_
     iterate 3 refine EL_s rfl rfl u3 rfl rfl ?_
     refine EL_p (.bool false) (P_pick (b := (decide (((o0).b.length : Int) > (0 : Int)))) rfl (pick_f u3 rfl)) rfl ?_
     refine EL_nil ?_
     obtain rfl := sinj h
     exact hQ _ _ ⟨v8, hfr, x5, i6, rfl⟩
   ·clear hx
    obtain ⟨x8, hfr, g8, k8, i7⟩ := hR
    rcases csome h with ⟨m7, h⟩ | ⟨m7, h⟩
    ·refine E_cond_true (Eq.trans (show ev _ _ = .bool (l5) from i7) (congrArg Value.bool m7)) ?_
     exact E_skip (thn_n (d9 () _ _ ⟨x8, hfr, g8, k8⟩ h))
    ·refine E_cond_false (Eq.trans (show ev _ _ = .bool (l5) from i7) (congrArg Value.bool m7)) ?_
     refine E_exit ?_
     refine thn_e ?_
     refine thn_e ?_
     refine blk_hit ?_
     obtain rfl := sinj h
     exact hQ _ _ ⟨x8, hfr, g8⟩
  ·rintro _ bA aB ⟨n9, hfr, l8, m8⟩ h
   refine E_block ?_
   refine E_region (EL_mv l8 rfl ?_)
   obtain ⟨x6, l9, h⟩ := bsome h
   refine EL_p (Str.v (⟨x6⟩ : Str)) (P_sliceS Tryd.underlying9 rfl rfl rfl l9) rfl ?_
   refine EL_at (Str.v (⟨x6⟩ : Str)) rfl rfl ?_
   exact EL_nil (blk_n (thn_n (a9 ((⟨x6⟩ : Str)) _ _ ⟨n9, hfr, rfl, m8⟩ h)))
 ·clear hx
  obtain ⟨dB, hfr, n8⟩ := hR
  refine E_seq (E_region (EL_mv n8 rfl ?_))
  refine EL_at (Str.v (t5)) rfl rfl ?_
  refine EL_nil (thn_n (E_ret ?_))
  obtain rfl := sinj h
  exact end1 rfl rfl (show _ = Str.v (t5) from rfl) ⟨_, hfr, rfl⟩
def f169 (x0 : Str) (x1 : UInt8) : Option (Str) :=
 Option.bind (α := Str) (
  lp (σ := Str) (fun k18 o0 =>
   jn (σ := Unit) (fun _ =>
    (cut (o0).b 0 (w64 (((o0).b.length : Int) - (1 : Int)))).bind fun x6 =>
    k18 ((⟨x6⟩ : Str))
    ) fun r8 =>
   Option.bind (α := Bool) (
    bif (decide (((o0).b.length : Int) > (0 : Int))) then
     (idx (o0).b (w64 (((o0).b.length : Int) - (1 : Int)))).bind fun y6 =>
     some ((y6 == x1))
    else
     some (false)
    ) fun l5 =>
   bif l5 then
    r8 ()
   else
    some (o0)
   ) big (x0)
  ) fun t5 =>
 some (t5)
theorem en169 : Enters Tryd.prog 169 := enters_of Tryd.func169 (by kernel_rfl) rfl
theorem wk169 {gI : Gh} {wI : World} {x0 : Str} {x1 : UInt8}  {r : Str} (h : f169 x0 x1 = some r) : Fn Tryd.prog 169 #[Str.v (x0), .int .u8 (UInt8.toNat (x1))] gI wI (fun _ _ v => v = Str.v (r)) := by
 unfold f169 at h
 refine fn_of_E Tryd.func169 rfl (Nat.le_of_ble_eq_true rfl) fun g0 hm hfr => ?_
 show E _ 23 none _ _ _ _ _
 refine E_seq (E_region (EL_at (Str.v (⟨[]⟩ : Str)) rfl rfl ?_))
 refine EL_nil (thn_n ?_)
 obtain ⟨t5, hx, h⟩ := bsome h
 refine E_join (fun e w => ∃ (g : Gh) , Fr gI wI g w ∧ e 0 = Str.v (t5)) (fun Q' hQ => ?_) (fun u9 iA hR => ?_)
 ·replace h := hx
  clear hx
  refine E_block ?_
  refine E_lp h (fun (s : Str) e w => ∃ (g : Gh) , Fr gI wI g w ∧ e 0 = Str.v (s) ∧ e 1 = .int .u8 (UInt8.toNat (x1))) ⟨g0, hfr, rfl, rfl⟩ (fun X18 k18 a9 => ?_)
  rintro o0 y9 rA ⟨v8, hfr, x5, i6⟩ h
  refine E_joinC h (fun (s : Unit) e w => ∃ (g : Gh) , Fr gI wI g w ∧ e 0 = Str.v (o0) ∧ e 1 = .int .u8 (UInt8.toNat (x1))) (fun X26 r8 d9 h => ?_) ?_
  ·obtain ⟨l5, hx, h⟩ := bsome h
   refine E_join (fun e w => ∃ (g : Gh) , Fr gI wI g w ∧ e 0 = Str.v (o0) ∧ e 1 = .int .u8 (UInt8.toNat (x1)) ∧ e 16 = .bool (l5)) (fun Q' hQ => ?_) (fun z9 yA hR => ?_)
   ·replace h := hx
    clear hx
    refine E_region (EL_mv x5 rfl ?_)
    refine EL_p (.int .i64 ((o0).b.length : Int)) (P_lenS Tryd.underlying9 rfl) rfl ?_
    refine EL_in (.bool ((decide (((o0).b.length : Int) > (0 : Int))))) rfl rfl rfl rfl ?_
    refine EL_mw (.bool ((decide (((o0).b.length : Int) > (0 : Int))))) rfl rfl ?_
    rcases csome h with ⟨u3, h⟩ | ⟨u3, h⟩
    ·refine EL_y (Str.v (o0)) (P_move x5) rfl rfl u3 rfl ?_
     refine EL_y (Str.v (o0)) (P_move x5) rfl rfl u3 rfl ?_
     refine EL_y (.int .i64 ((o0).b.length : Int)) (P_lenS Tryd.underlying9 rfl) rfl rfl u3 rfl ?_
     refine EL_y (.int .i64 ((w64 (((o0).b.length : Int) - (1 : Int))))) (P_int rfl rfl rfl) rfl rfl u3 rfl ?_
     obtain ⟨y6, k9, h⟩ := bsome h
     refine EL_y (.int .u8 (UInt8.toNat (y6))) (P_indexS Tryd.underlying9 rfl rfl k9) rfl rfl u3 rfl ?_
     refine EL_y (.int .u8 (UInt8.toNat (x1))) (P_move i6) rfl rfl u3 rfl ?_
     refine EL_y (.bool ((y6 == x1))) (P_u8 rfl rfl rfl) rfl rfl u3 rfl ?_
     refine EL_p (.bool ((y6 == x1))) (P_pick (b := (decide (((o0).b.length : Int) > (0 : Int)))) rfl (pick_t u3 rfl)) rfl ?_
     refine EL_nil ?_
     obtain rfl := sinj h
     exact hQ _ _ ⟨v8, hfr, x5, i6, rfl⟩
    ·refine EL_s rfl rfl u3 rfl rfl ?_
     iterate 6 refine EL_s rfl rfl u3 rfl rfl ?_
     refine EL_p (.bool false) (P_pick (b := (decide (((o0).b.length : Int) > (0 : Int)))) rfl (pick_f u3 rfl)) rfl ?_
     refine EL_nil ?_
     obtain rfl := sinj h
     exact hQ _ _ ⟨v8, hfr, x5, i6, rfl⟩
   ·clear hx
    obtain ⟨x8, hfr, g8, l8, i7⟩ := hR
    rcases csome h with ⟨m7, h⟩ | ⟨m7, h⟩
    ·refine E_cond_true (Eq.trans (show ev _ _ = .bool (l5) from i7) (congrArg Value.bool m7)) ?_
     exact E_skip (thn_n (d9 () _ _ ⟨x8, hfr, g8, l8⟩ h))
    ·refine E_cond_false (Eq.trans (show ev _ _ = .bool (l5) from i7) (congrArg Value.bool m7)) ?_
     refine E_exit ?_
     refine thn_e ?_
     refine thn_e ?_
     refine blk_hit ?_
     obtain rfl := sinj h
     exact hQ _ _ ⟨x8, hfr, g8⟩
  ·rintro _ bA aB ⟨n9, hfr, k8, m8⟩ h
   refine E_block ?_
   refine E_region (EL_mv k8 rfl ?_)
   refine EL_mv k8 rfl ?_
   refine EL_p (.int .i64 ((o0).b.length : Int)) (P_lenS Tryd.underlying9 rfl) rfl ?_
   refine EL_in (.int .i64 ((w64 (((o0).b.length : Int) - (1 : Int))))) rfl rfl rfl rfl ?_
   obtain ⟨x6, l9, h⟩ := bsome h
   refine EL_p (Str.v (⟨x6⟩ : Str)) (P_sliceS Tryd.underlying9 rfl rfl rfl l9) rfl ?_
   refine EL_at (Str.v (⟨x6⟩ : Str)) rfl rfl ?_
   exact EL_nil (blk_n (thn_n (a9 ((⟨x6⟩ : Str)) _ _ ⟨n9, hfr, rfl, m8⟩ h)))
 ·clear hx
  obtain ⟨dB, hfr, n8⟩ := hR
  refine E_seq (E_region (EL_mv n8 rfl ?_))
  refine EL_at (Str.v (t5)) rfl rfl ?_
  refine EL_nil (thn_n (E_ret ?_))
  obtain rfl := sinj h
  exact end1 rfl rfl (show _ = Str.v (t5) from rfl) ⟨_, hfr, rfl⟩
def f170 (x0 : Str) : Option ((Vector Bool 256) × Bool) :=
 jn (σ := (Vector Bool 256)) (fun g8 =>
  some (g8, true)
  ) fun yA =>
 lp (σ := (Vector Bool 256) × Int) (fun aB (u3, o0) =>
  jn (σ := Unit) (fun _ =>
   jn (σ := (Vector Bool 256)) (fun i6 =>
    aB (i6, (w64 (o0 + (1 : Int))))
    ) fun dB =>
   (idx (x0).b o0).bind fun l5 =>
   jn (σ := (Vector Bool 256)) (fun t5 =>
    (idx (t5).toList ((l5).toNat : Int)).bind fun rC =>
    dB ((vset t5 (((l5).toNat : Int)) true))
    ) fun iB =>
   bif (decide ((128 : UInt8) ≤ l5)) then
    some (u3, false)
   else
    iB (u3)
   ) fun lB =>
  bif (decide (o0 < ((x0).b.length : Int))) then
   lB ()
  else
   yA (u3)
  ) big (((Vector.replicate 256 false) : Vector Bool 256), (0 : Int))
theorem en170 : Enters Tryd.prog 170 := enters_of Tryd.func170 (by kernel_rfl) rfl
theorem wk170 {gI : Gh} {wI : World} {x0 : Str}  {r : (Vector Bool 256) × Bool} (h : f170 x0 = some r) : Fn Tryd.prog 170 #[Str.v (x0)] gI wI (fun m w v => ∃ y0 y1, v = .tuple #[y0, y1] ∧ RV m w (r.1) y0 ∧ y1 = .bool (r.2)) := by
 unfold f170 at h
 refine fn_of_E Tryd.func170 rfl (Nat.le_of_ble_eq_true rfl) fun g0 hm hfr => ?_
 show E _ 21 none _ _ _ _ _
 refine E_seq (E_region (EL_do .plain rfl (D_allocOc (g := g0) 2002 ((Vector.replicate 256 false) : Vector Bool 256) Tryd.zeroValue278 (fun m w => ⟨_, (rep_replicate rep_bool), by kernel_rfl⟩) fun g1 w1 p1 hs b1 cb => ?_)))
 have hfr := hfr.stp hs
 clear cb
 refine EL_at (.bool false) rfl rfl ?_
 refine EL_nil (thn_n (E_joinC h (fun (s : (Vector Bool 256)) e w => ∃ (g : Gh) , Fr gI wI g w ∧ e 2 = p1 ∧ OB 2002 g w 278 (s : Vector Bool 256) p1) (fun X38 yA oB h => ?_) ?_))
 ·refine E_seq (E_region (EL_at (.int .i64 (0)) rfl rfl ?_))
  refine EL_nil (thn_n (E_block ?_))
  refine E_lp h (fun (s : (Vector Bool 256) × Int) e w => ∃ (g : Gh) , Fr gI wI g w ∧ e 0 = Str.v (x0) ∧ e 2 = p1 ∧ OB 2002 g w 278 (s.1 : Vector Bool 256) p1 ∧ e 4 = .int .i64 (s.2)) ⟨g1, hfr, rfl, rfl, b1, rfl⟩ (fun X39 aB tB => ?_)
  rintro ⟨u3, o0⟩ iD sD ⟨mB, hfr, k8, l8, m8, n8⟩ h
  refine E_joinC h (fun (s : Unit) e w => ∃ (g : Gh) , Fr gI wI g w ∧ e 0 = Str.v (x0) ∧ e 2 = p1 ∧ OB 2002 g w 278 (u3 : Vector Bool 256) p1 ∧ e 4 = .int .i64 (o0)) (fun X42 lB vB h => ?_) ?_
  ·refine E_seq (E_region (EL_mv n8 rfl ?_))
   refine EL_mv k8 rfl ?_
   refine EL_p (.int .i64 ((x0).b.length : Int)) (P_lenS Tryd.underlying9 rfl) rfl ?_
   refine EL_in (.bool ((decide (o0 < ((x0).b.length : Int))))) rfl rfl rfl rfl ?_
   refine EL_nil (thn_n ?_)
   rcases csome h with ⟨i7, h⟩ | ⟨i7, h⟩
   ·refine E_ct i7 rfl ?_
    exact E_skip (thn_n (vB () _ _ ⟨mB, hfr, k8, l8, m8, n8⟩ h))
   ·refine E_cf i7 rfl ?_
    refine E_exit ?_
    refine thn_e ?_
    refine thn_e ?_
    refine blk_hit ?_
    exact thn_n (oB (u3) _ _ ⟨mB, hfr, l8, m8⟩ h)
  ·rintro _ jD tD ⟨k9, hfr, r8, x5, x6, v8⟩ h
   refine E_joinC h (fun (s : (Vector Bool 256)) e w => ∃ (g : Gh) , Fr gI wI g w ∧ e 0 = Str.v (x0) ∧ e 2 = p1 ∧ OB 2002 g w 278 (s : Vector Bool 256) p1 ∧ e 4 = .int .i64 (o0)) (fun X59 dB yB h => ?_) ?_
   ·refine E_block ?_
    refine E_seq (E_region (EL_mv r8 rfl ?_))
    refine EL_mv v8 rfl ?_
    obtain ⟨l5, zB, h⟩ := bsome h
    refine EL_p (.int .u8 (UInt8.toNat (l5))) (P_indexS Tryd.underlying9 rfl rfl zB) rfl ?_
    refine EL_at (.int .u8 (UInt8.toNat (l5))) rfl rfl ?_
    refine EL_nil (thn_n (E_joinC h (fun (s : (Vector Bool 256)) e w => ∃ (g : Gh) , Fr gI wI g w ∧ e 0 = Str.v (x0) ∧ e 2 = p1 ∧ OB 2002 g w 278 (s : Vector Bool 256) p1 ∧ e 4 = .int .i64 (o0) ∧ e 5 = .int .u8 (UInt8.toNat (l5))) (fun X66 iB cC h => ?_) ?_))
    ·refine E_seq (E_region (EL_mw (.int .u8 (UInt8.toNat (l5))) rfl rfl ?_))
     refine EL_p (.bool ((decide ((128 : UInt8) ≤ l5)))) (P_u8 rfl rfl rfl) rfl ?_
     refine EL_nil (thn_n ?_)
     rcases csome h with ⟨m7, h⟩ | ⟨m7, h⟩
     ·refine E_ct m7 rfl ?_
      refine E_seq (E_region (EL_do .plain rfl (D_loadO (g := k9) Tryd.isAgg278 Tryd.sizeOf278 x5 x6 fun uC vC => ?_)))
      refine EL_do .plain rfl (D_storeOc (g := k9) (v := uC) Tryd.sizeOf278 x5 x6 rfl vC fun uD vD hs b69 cb => ?_)
      clear cb
      have hfr := hfr.stp hs
      refine EL_at (.bool false) rfl rfl ?_
      refine EL_nil (thn_n (E_ret (thn_r ?_)))
      refine blk_r ?_
      refine thn_r ?_
      refine thn_r ?_
      refine blk_r ?_
      refine thn_r ?_
      obtain rfl := sinj h
      obtain ⟨ad70, cv70, hp70, mC, cr70⟩ := ob_read Tryd.isAgg278 Tryd.sizeOf278 b69
      exact endm_ct rfl rfl ((show _ = p1 from x5).trans hp70) mC (show _ = .bool false from rfl) ⟨_, hfr, _, _, rfl, cr70, rfl⟩
     ·refine E_cf m7 rfl ?_
      exact E_skip (thn_n (cC (u3) _ _ ⟨k9, hfr, r8, x5, x6, v8, rfl⟩ h))
    ·rintro t5 lD xD ⟨aD, hfr, n9, x8, a9, u9, y9⟩ h
     refine E_region (EL_mv y9 rfl ?_)
     obtain ⟨rC, l9, h⟩ := bsome h
     obtain ⟨hi73, he73⟩ := vat_idx l9
     refine EL_p (fPtr p1 ((((l5).toNat : Int) : Int).toNat * 1)) (P_indexAddrA (α := Bool) Tryd.underlying278 Tryd.sizeOf4 x8 (OB.ptr a9) rfl l9) rfl ?_
     refine EL_do .plain rfl (D_storeFc (g := aD) (SubS.dyn hi73) Tryd.sizeOf4 rfl a9 rfl (RV_bool.2 rfl) fun bD yD hs b74 rst hos => ?_)
     clear rst hos
     have hfr := hfr.stp hs
     exact EL_nil (blk_n (thn_n (yB ((vset t5 (((l5).toNat : Int)) true)) _ _ ⟨bD, hfr, n9, x8, b74, u9⟩ h)))
   ·rintro i6 nD zD ⟨cD, hfr, z9, bA, iA, rA⟩ h
    refine E_region (EL_mv rA rfl ?_)
    refine EL_in (.int .i64 ((w64 (o0 + (1 : Int))))) rfl rfl rfl rfl ?_
    refine EL_at (.int .i64 ((w64 (o0 + (1 : Int))))) rfl rfl ?_
    exact EL_nil (thn_n (tB (i6, (w64 (o0 + (1 : Int)))) _ _ ⟨cD, hfr, z9, bA, iA, rfl⟩ h))
 ·rintro g8 oD aE ⟨nB, hfr, y6, d9⟩ h
  refine E_seq (E_region (EL_do .plain rfl (D_loadO (g := nB) Tryd.isAgg278 Tryd.sizeOf278 y6 d9 fun eD gD => ?_)))
  refine EL_do .plain rfl (D_storeOc (g := nB) (v := eD) Tryd.sizeOf278 y6 d9 rfl gD fun bE iE hs b78 cb => ?_)
  clear cb
  have hfr := hfr.stp hs
  refine EL_at (.bool true) rfl rfl ?_
  refine EL_nil (thn_n (E_ret ?_))
  obtain rfl := sinj h
  obtain ⟨ad79, cv79, hp79, qC, cr79⟩ := ob_read Tryd.isAgg278 Tryd.sizeOf278 b78
  exact endm_ct rfl rfl ((show _ = p1 from y6).trans hp79) qC (show _ = .bool true from rfl) ⟨_, hfr, _, _, rfl, cr79, rfl⟩
def f175 (x0 : List Str) (x1 : Str → Option Bool) : Option (Int) :=
 jn (σ := Unit) (fun _ =>
  some ((-1 : Int))
  ) fun k18 =>
 lp (σ := Int) (fun k19 o0 =>
  bif (decide (o0 < ((x0).length : Int))) then
   jn (σ := Unit) (fun _ =>
    k19 ((w64 (o0 + (1 : Int))))
    ) fun k28 =>
   (idx x0 o0).bind fun i7 =>
   (x1 i7).bind fun v8 =>
   bif v8 then
    some (o0)
   else
    k28 ()
  else
   k18 ()
  ) big ((0 : Int))
theorem en175 : Enters Tryd.prog 175 := enters_of Tryd.func175 (by kernel_rfl) rfl
theorem wk175 {gI : Gh} {wI : World} {x0 : List Str} {x1 : Str → Option Bool} {up0 : Value} (rp0 : RV gI.m wI x0 up0) {up1 : Value} (rp1 : FnV1 Tryd.prog x1 up1 gI wI) {r : Int} (h : f175 x0 x1 = some r) : Fn Tryd.prog 175 #[up0, up1] gI wI (fun _ _ v => v = .int .i64 (r)) := by
 unfold f175 at h
 refine fn_of_E Tryd.func175 rfl (Nat.le_of_ble_eq_true rfl) fun g0 hm hfr => ?_
 have rp0 : RV g0.m wI x0 up0 := hm ▸ rp0
 obtain ⟨ff1, fa1, fc1, rfl, fen1, fcl1⟩ := rp1
 show E _ 19 none _ _ _ _ _
 refine E_seq (E_region (EL_at (.int .i64 (0)) rfl rfl ?_))
 refine EL_nil (thn_n (E_joinC h (fun (s : Unit) e w => ∃ (g : Gh) , Fr gI wI g w) (fun X18 k18 x8 h => ?_) ?_))
 ·refine E_seq (E_region (EL_mw up0 rfl rfl ?_))
  refine EL_p (.int .i64 ((x0).length : Int)) (P_len Tryd.underlying57 rfl rp0) rfl ?_
  refine EL_mw (.int .i64 (0)) rfl rfl ?_
  refine EL_nil (thn_n (E_block ?_))
  refine E_lp h (fun (s : Int) e w => ∃ (g : Gh) , Fr gI wI g w ∧ e 0 = up0 ∧ RV g.m w (x0 : List Str) up0 ∧ e 1 = (.func (.func ff1) fa1 fc1) ∧ e 7 = .int .i64 (((x0).length : Int)) ∧ e 8 = .int .i64 (s)) ⟨g0, hfr, rfl, rp0, rfl, rfl, rfl⟩ (fun X19 k19 a9 => ?_)
  rintro o0 z9 rA ⟨m7, hfr, i6, u3, x6, y6, l5⟩ h
  refine E_seq (E_region (EL_in (.bool ((decide (o0 < ((x0).length : Int))))) l5 y6 rfl rfl ?_))
  refine EL_nil (thn_n (E_seq ?_))
  rcases csome h with ⟨t5, h⟩ | ⟨t5, h⟩
  ·refine E_ct t5 rfl ?_
   refine E_skip (thn_n (E_joinC h (fun (s : Unit) e w => ∃ (g : Gh) , Fr gI wI g w ∧ e 0 = up0 ∧ RV g.m w (x0 : List Str) up0 ∧ e 1 = (.func (.func ff1) fa1 fc1) ∧ e 7 = .int .i64 (((x0).length : Int)) ∧ e 8 = .int .i64 (o0)) (fun X28 k28 d9 h => ?_) ?_))
   ·refine E_block ?_
    refine E_seq (E_region (EL_mv l5 rfl ?_))
    refine EL_at (.int .i64 (o0)) rfl rfl ?_
    refine EL_nil (thn_n (E_seq (E_region (EL_mv x6 rfl ?_))))
    refine EL_mv i6 rfl ?_
    refine EL_mw (.int .i64 (o0)) rfl rfl ?_
    obtain ⟨i7, g8, h⟩ := bsome h
    refine EL_p (ePtr up0 o0 1) (P_indexAddr (α := Str) Tryd.underlying57 Tryd.sizeOf9 rfl u3 rfl g8) rfl ?_
    have l9 := PT_idx u3 g8
    refine EL_do .plain rfl (D_load (g := m7) Tryd.isAgg9 Tryd.sizeOf9 rfl l9 fun yA n9 => ?_)
    obtain rfl := RV_str.1 n9
    obtain ⟨v8, k9, h⟩ := bsome h
    refine EL_do .plain rfl (D_callv (g := m7) (vs := [Str.v (i7)]) rfl fen1 (.cons rfl .nil) (fcl1 _ _ hfr.ch _ _ _  (RV_str.2 rfl) k9) fun u9 aB dB hs hr => ?_)
    have hfr := hfr.ext hs
    have u3 := u3.ext hs
    obtain rfl := RV_bool.1 hr
    refine EL_nil (thn_n ?_)
    rcases csome h with ⟨x5, h⟩ | ⟨x5, h⟩
    ·refine E_ct x5 rfl ?_
     refine E_seq (E_region (EL_mw (.int .i64 (o0)) rfl rfl ?_))
     refine EL_at (.int .i64 (o0)) rfl rfl ?_
     refine EL_nil (thn_n (E_ret (blk_r ?_)))
     refine thn_r ?_
     refine thn_r ?_
     refine blk_r ?_
     refine thn_r ?_
     obtain rfl := sinj h
     exact end1 rfl rfl (show _ = .int .i64 (o0) from rfl) ⟨_, hfr, rfl⟩
    ·refine E_cf x5 rfl ?_
     exact E_skip (blk_n (thn_n (d9 () _ _ ⟨u9, hfr, i6, u3, x6, y6, l5⟩ h)))
   ·rintro _ bA iB ⟨y9, hfr, k8, l8, m8, n8, r8⟩ h
    refine E_region (EL_in (.int .i64 ((w64 (o0 + (1 : Int))))) r8 rfl rfl rfl ?_)
    refine EL_mw (.int .i64 ((w64 (o0 + (1 : Int))))) rfl rfl ?_
    exact EL_nil (thn_n (a9 ((w64 (o0 + (1 : Int)))) _ _ ⟨y9, hfr, k8, l8, m8, n8, rfl⟩ h))
  ·refine E_cf t5 rfl ?_
   refine E_exit ?_
   refine thn_e ?_
   refine thn_e ?_
   refine blk_hit ?_
   exact thn_n (x8 () _ _ ⟨m7, hfr⟩ h)
 ·rintro _ iA lB ⟨mB, hfr⟩ h
  refine E_seq (E_region (EL_at (.int .i64 (-1)) rfl rfl ?_))
  refine EL_nil (thn_n (E_ret ?_))
  obtain rfl := sinj h
  exact end1 rfl rfl (show _ = .int .i64 (-1) from rfl) ⟨_, hfr, rfl⟩
def f195 (x1 : It Int) : Option ((List Int)) :=
 Option.bind (α := (List Int)) (
  (x1 ((List Int)) (fun i6 t5 =>
   (apnd 8 i6 (([t5] : List Int))).bind fun y6 =>
   some (true, (y6))
   ) ((([] : List Int) : List Int))).bind fun x6 =>
  some (x6)
  ) fun x5 =>
 some (x5)
theorem en195 : Enters Tryd.prog 195 := enters_of Tryd.func195 (by kernel_rfl) rfl
def f196 (z0 : Int) (z1 : Int) (σ : Type) (cons : Cons σ Int) (s0 : σ) : Option σ :=
 Option.bind (α := Int) (
  bif (decide (z0 < z1)) then
   some ((-1 : Int))
  else
   some ((1 : Int))
  ) fun u3 =>
 lp (σ := σ × Int) (fun k9 (n8, o0) =>
  jn (σ := σ) (fun i7 =>
   k9 (i7, (w64 (o0 + u3)))
   ) fun aB =>
  Option.bind (α := σ × Bool) (
   (cons n8 o0).bind fun (x6, l8) =>
   bif (!x6) then
    some (l8, true)
   else
    some (l8, (o0 == z0))
   ) fun (x5, t5) =>
  bif t5 then
   some x5
  else
   aB (x5)
  ) big (s0, z1)
theorem en196 : Enters Tryd.prog 196 := enters_of Tryd.func196 (by kernel_rfl) rfl
theorem wk196 {σ : Type} {cons : Cons σ Int} {s0 r : σ} {gI : Gh} {wI : World} {z0 : Int} {z1 : Int} {pf0 : Value} (qf0 : PT gI.m wI z0 pf0) {pf1 : Value} (qf1 : PT gI.m wI z1 pf1) (h : f196 z0 z1 σ cons s0 = some r) : IterC Tryd.prog (RA1 (α := Int)) 196 #[] #[pf0, pf1] gI wI cons s0 r := by
 unfold f196 at h
 refine iter_of_E Tryd.func196 rfl (Nat.le_of_ble_eq_true rfl) fun l B J g0 hm hAb hRo hfr => ?_
 have qf0 : PT g0.m wI z0 pf0 := hm ▸ qf0
 have qf1 : PT g0.m wI z1 pf1 := hm ▸ qf1
 show E _ 22 none _ _ (envAt #[.func (.yield l) #[] #[], pf0, pf1]) _ _
 refine E_seq (E_region (EL_at (.int .i64 (1)) rfl rfl ?_))
 refine EL_nil (thn_n ?_)
 obtain ⟨u3, hx, h⟩ := bsome h
 refine E_join (fun e w => ∃ (g : Gh) , FrY gI wI B J (s0) g w ∧ e 0 = (.func (.yield l) #[] #[]) ∧ e 1 = pf0 ∧ PT g.m w (z0 : Int) pf0 ∧ e 2 = pf1 ∧ PT g.m w (z1 : Int) pf1 ∧ e 4 = .int .i64 (u3)) (fun Q' hQ => ?_) (fun bD w7 hR => ?_)
 ·replace h := hx
  clear hx
  refine E_seq (E_region (EL_do .plain rfl (D_load (g := g0) Tryd.isAgg3 Tryd.sizeOf3 rfl qf0 fun v4 r4 => ?_)))
  obtain rfl := RV_int.1 r4
  refine EL_do .plain rfl (D_load (g := g0) Tryd.isAgg3 Tryd.sizeOf3 rfl qf1 fun v5 r5 => ?_)
  obtain rfl := RV_int.1 r5
  refine EL_in (.bool ((decide (z0 < z1)))) rfl rfl rfl rfl ?_
  refine EL_nil (thn_n ?_)
  rcases csome h with ⟨hc6, h⟩ | ⟨hc6, h⟩
  ·refine E_ct hc6 rfl ?_
   refine E_region (EL_at (.int .i64 (-1)) rfl rfl ?_)
   refine EL_nil ?_
   obtain rfl := sinj h
   exact hQ _ _ ⟨g0, hfr, rfl, rfl, qf0, rfl, qf1, rfl⟩
  ·refine E_cf hc6 rfl ?_
   refine E_skip ?_
   obtain rfl := sinj h
   exact hQ _ _ ⟨g0, hfr, rfl, rfl, qf0, rfl, qf1, rfl⟩
 ·clear hx
  obtain ⟨g7, hfr, dB, iB, lB, mB, nB, oB⟩ := hR
  refine E_seq (E_region (EL_do .plain rfl (D_load (g := g7) Tryd.isAgg3 Tryd.sizeOf3 mB nB fun v8 r8 => ?_)))
  obtain rfl := RV_int.1 r8
  refine EL_at (.int .i64 (z1)) rfl rfl ?_
  refine EL_nil (thn_n (E_block ?_))
  refine E_lp h (fun (s : σ × Int) e w => ∃ (g : Gh) , FrY gI wI B J (s.1) g w ∧ e 0 = (.func (.yield l) #[] #[]) ∧ e 1 = pf0 ∧ PT g.m w (z0 : Int) pf0 ∧ e 4 = .int .i64 (u3) ∧ e 5 = .int .i64 (s.2)) ⟨g7, hfr, dB, iB, lB, oB, rfl⟩ (fun X9 k9 yB => ?_)
  rintro ⟨n8, o0⟩ uC cD ⟨zB, hfr, m7, g8, i6, x8, y6⟩ h
  refine E_joinC h (fun (s : σ) e w => ∃ (g : Gh) , FrY gI wI B J (s) g w ∧ e 0 = (.func (.yield l) #[] #[]) ∧ e 1 = pf0 ∧ PT g.m w (z0 : Int) pf0 ∧ e 4 = .int .i64 (u3) ∧ e 5 = .int .i64 (o0)) (fun X21 aB tB h => ?_) ?_
  ·refine E_block ?_
   obtain ⟨⟨x5, t5⟩, hx, h⟩ := bsome h
   refine E_join (fun e w => ∃ (g : Gh) , FrY gI wI B J (x5) g w ∧ e 0 = (.func (.yield l) #[] #[]) ∧ e 1 = pf0 ∧ PT g.m w (z0 : Int) pf0 ∧ e 4 = .int .i64 (u3) ∧ e 5 = .int .i64 (o0) ∧ e 21 = .bool (t5)) (fun Q' hQ => ?_) (fun vC eD hR => ?_)
   ·replace h := hx
    clear hx
    refine E_region (EL_mv m7 rfl ?_)
    refine EL_mv y6 rfl ?_
    obtain ⟨cC, vB, h⟩ := bsome h
    obtain ⟨x6, l8⟩ := cC
    refine EL_do .plain rfl (D_yield (g := zB) (x := o0) rfl (.cons rfl .nil) hRo hfr vB ⟨_, rfl, (RV_int.2 rfl)⟩ fun d9 gD hs hfrY => ?_)
    have i6 := i6.stp hs
    have hfr := hfrY
    clear hfrY
    refine EL_p (.bool (!x6)) (P_not rfl) rfl ?_
    refine EL_mw (.bool (!x6)) rfl rfl ?_
    rcases csome h with ⟨l5, h⟩ | ⟨l5, h⟩
    ·refine EL_s rfl rfl l5 rfl rfl ?_
     refine EL_s rfl rfl l5 rfl rfl ?_
     refine EL_s rfl rfl l5 rfl rfl ?_
     refine EL_p (.bool true) (P_pick (b := (!x6)) rfl (pick_t l5 rfl)) rfl ?_
     refine EL_nil ?_
     obtain ⟨rfl, rfl⟩ := pairs2 h
     exact hQ _ _ ⟨d9, hfr, m7, g8, i6, x8, y6, rfl⟩
    ·refine EL_y (.int .i64 (o0)) (P_move y6) rfl rfl l5 rfl ?_
     refine EL_do (.yes2 rfl rfl l5) rfl (D_load (g := d9) Tryd.isAgg3 Tryd.sizeOf3 g8 i6 fun iD mC => ?_)
     obtain rfl := RV_int.1 mC
     refine EL_y (.bool ((o0 == z0))) (P_int rfl rfl rfl) rfl rfl l5 rfl ?_
     refine EL_p (.bool ((o0 == z0))) (P_pick (b := (!x6)) rfl (pick_f l5 rfl)) rfl ?_
     refine EL_nil ?_
     obtain ⟨rfl, rfl⟩ := pairs2 h
     exact hQ _ _ ⟨d9, hfr, m7, g8, i6, x8, y6, rfl⟩
   ·clear hx
    obtain ⟨qC, hfr, l9, n9, u9, y9, z9, k8⟩ := hR
    rcases csome h with ⟨m8, h⟩ | ⟨m8, h⟩
    ·refine E_cond_true (Eq.trans (show ev _ _ = .bool (t5) from k8) (congrArg Value.bool m8)) ?_
     refine E_ret (blk_r ?_)
     refine thn_r ?_
     refine thn_r ?_
     refine blk_r ?_
     obtain rfl := sinj h
     exact end0 rfl rfl (FrY.done hfr)
    ·refine E_cond_false (Eq.trans (show ev _ _ = .bool (t5) from k8) (congrArg Value.bool m8)) ?_
     exact E_skip (blk_n (thn_n (tB (x5) _ _ ⟨qC, hfr, l9, n9, u9, y9, z9⟩ h)))
  ·rintro i7 aD jD ⟨rC, hfr, bA, iA, rA, a9, yA⟩ h
   refine E_region (EL_mv yA rfl ?_)
   refine EL_mv a9 rfl ?_
   refine EL_in (.int .i64 ((w64 (o0 + u3)))) rfl rfl rfl rfl ?_
   refine EL_at (.int .i64 ((w64 (o0 + u3)))) rfl rfl ?_
   exact EL_nil (thn_n (yB (i7, (w64 (o0 + u3))) _ _ ⟨rC, hfr, bA, iA, rA, a9, rfl⟩ h))
def f197 (z0 : List EyeThread) (σ : Type) (cons : Cons σ (Int × EyeThread)) (s0 : σ) : Option σ :=
 lp (σ := σ × Int) (fun k2 (u3, o0) =>
  jn (σ := Unit) (fun _ =>
   jn (σ := σ) (fun l5 =>
    k2 (l5, (w64 (o0 - (1 : Int))))
    ) fun x8 =>
   (idx z0 o0).bind fun i7 =>
   (cons u3 (o0, i7)).bind fun (i6, t5) =>
   bif (!i6) then
    some t5
   else
    x8 (t5)
   ) fun k5 =>
  bif (decide (o0 ≥ (0 : Int))) then
   k5 ()
  else
   some u3
  ) big (s0, (w64 (((z0).length : Int) - (1 : Int))))
theorem en197 : Enters Tryd.prog 197 := enters_of Tryd.func197 (by kernel_rfl) rfl
theorem wk197 {σ : Type} {cons : Cons σ (Int × EyeThread)} {s0 r : σ} {gI : Gh} {wI : World} {z0 : List EyeThread} {pf0 : Value} (qf0 : PT gI.m wI z0 pf0) (h : f197 z0 σ cons s0 = some r) : IterC Tryd.prog (RA2 (α := Int) (β := EyeThread)) 197 #[] #[pf0] gI wI cons s0 r := by
 unfold f197 at h
 refine iter_of_E Tryd.func197 rfl (Nat.le_of_ble_eq_true rfl) fun l B J g0 hm hAb hRo hfr => ?_
 have qf0 : PT g0.m wI z0 pf0 := hm ▸ qf0
 show E _ 19 none _ _ (envAt #[.func (.yield l) #[] #[], pf0]) _ _
 refine E_seq (E_region (EL_do .plain rfl (D_load (g := g0) Tryd.isAgg225 Tryd.sizeOf225 rfl qf0 fun v1 r1 => ?_)))
 refine EL_p (.int .i64 ((z0).length : Int)) (P_len Tryd.underlying225 rfl r1) rfl ?_
 refine EL_in (.int .i64 ((w64 (((z0).length : Int) - (1 : Int))))) rfl rfl rfl rfl ?_
 refine EL_at (.int .i64 ((w64 (((z0).length : Int) - (1 : Int))))) rfl rfl ?_
 refine EL_nil (thn_n (E_block ?_))
 refine E_lp h (fun (s : σ × Int) e w => ∃ (g : Gh) , FrY gI wI B J (s.1) g w ∧ e 0 = (.func (.yield l) #[] #[]) ∧ e 1 = pf0 ∧ PT g.m w (z0 : List EyeThread) pf0 ∧ e 3 = .int .i64 (s.2)) ⟨g0, hfr, rfl, rfl, qf0, rfl⟩ (fun X2 k2 hk2 => ?_)
 rintro ⟨u3, o0⟩ dB w3 ⟨g3, hfr, d9, k9, l9, m7⟩ h
 refine E_joinC h (fun (s : Unit) e w => ∃ (g : Gh) , FrY gI wI B J (u3) g w ∧ e 0 = (.func (.yield l) #[] #[]) ∧ e 1 = pf0 ∧ PT g.m w (z0 : List EyeThread) pf0 ∧ e 3 = .int .i64 (o0)) (fun X5 k5 hk5 h => ?_) ?_
 ·refine E_seq (E_region (EL_mv m7 rfl ?_))
  refine EL_in (.bool ((decide (o0 ≥ (0 : Int))))) rfl rfl rfl rfl ?_
  refine EL_nil (thn_n ?_)
  rcases csome h with ⟨hc6, h⟩ | ⟨hc6, h⟩
  ·refine E_ct hc6 rfl ?_
   exact E_skip (thn_n (hk5 () _ _ ⟨g3, hfr, d9, k9, l9, m7⟩ h))
  ·refine E_cf hc6 rfl ?_
   refine E_exit ?_
   refine thn_e ?_
   refine thn_e ?_
   refine blk_hit ?_
   obtain rfl := sinj h
   exact end0n rfl rfl (FrY.done hfr)
 ·rintro _ iB w7 ⟨g7, hfr, g8, k8, x5, x6⟩ h
  refine E_joinC h (fun (s : σ) e w => ∃ (g : Gh) , FrY gI wI B J (s) g w ∧ e 0 = (.func (.yield l) #[] #[]) ∧ e 1 = pf0 ∧ PT g.m w (z0 : List EyeThread) pf0 ∧ e 3 = .int .i64 (o0)) (fun X15 x8 n9 h => ?_) ?_
  ·refine E_block ?_
   refine E_seq (E_region (EL_mv g8 rfl ?_))
   refine EL_mv x6 rfl ?_
   refine EL_do .plain rfl (D_load (g := g7) Tryd.isAgg225 Tryd.sizeOf225 k8 x5 fun y9 a9 => ?_)
   refine EL_mv x6 rfl ?_
   obtain ⟨i7, l8, h⟩ := bsome h
   refine EL_p (ePtr y9 o0 2) (P_indexAddr (α := EyeThread) Tryd.underlying225 Tryd.sizeOf231 rfl a9 rfl l8) rfl ?_
   have z9 := PT_idx a9 l8
   refine EL_do .plain rfl (D_load (g := g7) Tryd.isAgg231 Tryd.sizeOf231 rfl z9 fun lB bA => ?_)
   obtain ⟨iA, u9, h⟩ := bsome h
   obtain ⟨i6, t5⟩ := iA
   refine EL_do .plain rfl (D_yield (g := g7) (x := (o0, i7)) rfl (.cons rfl (.cons rfl .nil)) hRo hfr u9 ⟨_, _, rfl, (RV_int.2 rfl), bA⟩ fun rA mB hs hfrY => ?_)
   have x5 := x5.stp hs
   have hfr := hfrY
   clear hfrY
   refine EL_p (.bool (!i6)) (P_not rfl) rfl ?_
   refine EL_nil (thn_n ?_)
   rcases csome h with ⟨y6, h⟩ | ⟨y6, h⟩
   ·refine E_ct y6 rfl ?_
    refine E_ret (blk_r ?_)
    refine thn_r ?_
    refine thn_r ?_
    refine blk_r ?_
    obtain rfl := sinj h
    exact end0 rfl rfl (FrY.done hfr)
   ·refine E_cf y6 rfl ?_
    exact E_skip (blk_n (thn_n (n9 (t5) _ _ ⟨rA, hfr, g8, k8, x5, x6⟩ h)))
  ·rintro l5 aB nB ⟨yA, hfr, m8, n8, r8, v8⟩ h
   refine E_region (EL_mv v8 rfl ?_)
   refine EL_in (.int .i64 ((w64 (o0 - (1 : Int))))) rfl rfl rfl rfl ?_
   refine EL_at (.int .i64 ((w64 (o0 - (1 : Int))))) rfl rfl ?_
   exact EL_nil (thn_n (hk2 (l5, (w64 (o0 - (1 : Int)))) _ _ ⟨yA, hfr, m8, n8, r8, rfl⟩ h))
def f198 (x0 : Vector Bool 256) (x1 : UInt8) : Option (Bool) :=
 (idx (x0).toList ((x1).toNat : Int)).bind fun y2 =>
 some (y2)
theorem en198 : Enters Tryd.prog 198 := enters_of Tryd.func198 (by kernel_rfl) rfl
theorem wk198 {gI : Gh} {wI : World} {x0 : Vector Bool 256} {x1 : UInt8} {up0 : Value} (rp0 : PT gI.m wI x0 up0) {r : Bool} (h : f198 x0 x1 = some r) : Fn Tryd.prog 198 #[up0, .int .u8 (UInt8.toNat (x1))] gI wI (fun _ _ v => v = .bool (r)) := by
 unfold f198 at h
 refine fn_of_E Tryd.func198 rfl (Nat.le_of_ble_eq_true rfl) fun g0 hm hfr => ?_
 have rp0 : PT g0.m wI x0 up0 := hm ▸ rp0
 show E _ 10 none _ _ _ _ _
 refine E_seq (E_region (EL_at (.bool false) rfl rfl ?_))
 refine EL_nil (thn_n (E_seq (E_region (EL_mw up0 rfl rfl ?_))))
 refine EL_mw (.int .u8 (UInt8.toNat (x1))) rfl rfl ?_
 obtain ⟨pb1, po1, pe1⟩ := PT.ptr rp0
 refine EL_p up0 (P_nilCk rfl pe1) rfl ?_
 obtain ⟨y2, hy2, h⟩ := bsome h
 refine EL_p (fPtr up0 ((((x1).toNat : Int) : Int).toNat * 1)) (P_indexAddrA (α := Bool) Tryd.underlying278 Tryd.sizeOf4 rfl (PT.ptr rp0) rfl hy2) rfl ?_
 have q3 := PT_idxA rp0 hy2
 refine EL_do .plain rfl (D_load (g := g0) Tryd.isAgg4 Tryd.sizeOf4 rfl q3 fun v4 r4 => ?_)
 obtain rfl := RV_bool.1 r4
 refine EL_at (.bool (y2)) rfl rfl ?_
 refine EL_nil (thn_n (E_ret ?_))
 obtain rfl := sinj h
 exact end1 rfl rfl (show _ = .bool (y2) from rfl) ⟨_, hfr, rfl⟩
def f16 (x0 : TieHarness) : Option (TieHarness) :=
 (f28 ((x0).Warps)).bind fun y8 =>
 some ((⟨(x0).Hooks, y8⟩ : TieHarness))
theorem en16 : Enters Tryd.prog 16 := enters_of Tryd.func16 (by kernel_rfl) rfl
theorem wk16 {gI : Gh} {wI : World} {x0 : TieHarness} {up0 : Value} (rp0 : RV gI.m wI x0 up0) {r : TieHarness} (h : f16 x0 = some r) : Fn Tryd.prog 16 #[up0] gI wI (fun m w v => RV m w (r) v) := by
 unfold f16 at h
 refine fn_of_E Tryd.func16 rfl (Nat.le_of_ble_eq_true rfl) fun g0 hm hfr => ?_
 have rp0 : RV g0.m wI x0 up0 := hm ▸ rp0
 show E _ 9 none _ _ _ _ _
 refine E_seq (E_region (EL_do .plain rfl (D_box (g := g0) rfl rp0 fun g1 w1 p1 hs q1 => ?_)))
 have hfr := hfr.ext hs
 refine EL_do .plain rfl (D_allocOc (g := g1) 2002 (⟨0, []⟩ : TieHarness) Tryd.zeroValue52 (fun m w => ⟨_, (rep_two rep_int rep_nil), rfl⟩) fun g2 w2 p2 hs b2 cb => ?_)
 have hfr := hfr.stp hs
 have q1 := q1.stp hs
 have y6 : OSF 2002 60201 1 g2 w2 3 52 ([] : List Int) p2 := cb.osf (by rfl)
 clear cb
 refine EL_nil (thn_n (E_seq ?_))
 have q3 := PT_field (part_TieHarness_0).1 q1
 refine L_load (x := .tmp 3) Tryd.isAgg3 Tryd.sizeOf3 q3 fun v4 r4 x5 => ?_
 obtain rfl := RV_int.1 r4
 have q5 := PT_field (part_TieHarness_1).1 q1
 refine L_load (x := .tmp 5) Tryd.isAgg34 Tryd.sizeOf34 q5 fun v6 r6 i6 => ?_
 obtain ⟨y8, x6, h⟩ := bsome h
 refine E_drawL (g := g2) (n := 5) [(4, (fun v g w => RV g.m w y8 v))] [0, 1, 2, 3, 4] rfl mixed (by kernel_rfl) (⟨fun _ => up_rv, trivial⟩) ?_
 refine L_p (fPtr p1 0) rfl rfl (P_fieldAddr at_52_0 rfl (PT.ptr q1)) ?_
 refine L_ld (c := .int .i64 ((x0).Hooks)) rfl rfl .plain (fun _ _ h => h.ch) x5 rfl ?_
 refine L_p (fPtr p1 1) rfl rfl (P_fieldAddr at_52_1 rfl (PT.ptr q1)) ?_
 refine L_ld (c := v6) rfl rfl .plain (fun _ _ h => h.ch) i6 rfl ?_
 refine L_do (φ := fun v g w => RV g.m w y8 v) rfl rfl .plain (fun g w hd => D_call (g := g) (vs := [v6]) en28 (.cons rfl .nil) (wk28 (r6.ext hd.1) x6) fun g' w' v hs hr => ⟨g', hs, hr⟩) (fun v7 hv => ?_)
 obtain ⟨_, _, _, rq7⟩ := hv
 refine L_nil fun g9 w9 hall => ?_
 have hs := hall.1
 have hfr := hfr.ext hs
 have b2 := b2.ext hs
 have o0 := (word_all (A := fun g w => RV g.m w y8 v7) 4 rfl hall)
 clear hs hall
 have u3 : RV g9.m _ (⟨(x0).Hooks, y8⟩ : TieHarness) (.agg (setCh [[.int .i64 0], [.slice none 0 0]] [(0, .int .i64 ((x0).Hooks)), (1, v7)]).flatten.toArray) := RV_build rfl (rep_pair (rfl) (rep_last (RV.cells o0)))
 generalize t5 : (Value.agg (setCh [[.int .i64 0], [.slice none 0 0]] [(0, .int .i64 ((x0).Hooks)), (1, v7)]).flatten.toArray) = l5 at u3
 refine EL_p l5 (t5 ▸ P_build (vs := [(0, .int .i64 ((x0).Hooks)), (1, v7)]) [[.int .i64 0], [.slice none 0 0]] lay_52 rfl rfl (.cons rfl (.cons rfl .nil)) ⟨⟨_, rfl, rfl⟩, ⟨⟨_, rfl, cells_size o0⟩, trivial⟩⟩) rfl ?_
 refine EL_do .plain rfl (D_storeOc (g := g9) (v := l5) Tryd.sizeOf52 rfl b2 rfl u3 fun i7 m7 hs b19 cb => ?_)
 clear cb
 have hfr := hfr.stp hs
 refine EL_nil (thn_n (E_ret ?_))
 obtain rfl := sinj h
 obtain ⟨ad20, cv20, hp20, hl20, cr20⟩ := ob_read Tryd.isAgg52 Tryd.sizeOf52 b19
 exact endm_c rfl rfl ((show _ = p2 from rfl).trans hp20) hl20 ⟨_, hfr, cr20⟩
def f17 (x0 : Design) : Option (Design) :=
 (f28 ((x0).Rows)).bind fun y8 =>
 some ((⟨(x0).Hooks, y8⟩ : Design))
theorem en17 : Enters Tryd.prog 17 := enters_of Tryd.func17 (by kernel_rfl) rfl
theorem wk17 {gI : Gh} {wI : World} {x0 : Design} {up0 : Value} (rp0 : RV gI.m wI x0 up0) {r : Design} (h : f17 x0 = some r) : Fn Tryd.prog 17 #[up0] gI wI (fun m w v => RV m w (r) v) := by
 unfold f17 at h
 refine fn_of_E Tryd.func17 rfl (Nat.le_of_ble_eq_true rfl) fun g0 hm hfr => ?_
 have rp0 : RV g0.m wI x0 up0 := hm ▸ rp0
 show E _ 9 none _ _ _ _ _
 refine E_seq (E_region (EL_do .plain rfl (D_box (g := g0) rfl rp0 fun g1 w1 p1 hs q1 => ?_)))
 have hfr := hfr.ext hs
 refine EL_do .plain rfl (D_allocOc (g := g1) 2002 (⟨0, []⟩ : Design) Tryd.zeroValue55 (fun m w => ⟨_, (rep_two rep_int rep_nil), rfl⟩) fun g2 w2 p2 hs b2 cb => ?_)
 have hfr := hfr.stp hs
 have q1 := q1.stp hs
 have y6 : OSF 2002 60201 1 g2 w2 3 55 ([] : List Int) p2 := cb.osf (by rfl)
 clear cb
 refine EL_nil (thn_n (E_seq ?_))
 have q3 := PT_field (part_Design_0).1 q1
 refine L_load (x := .tmp 3) Tryd.isAgg3 Tryd.sizeOf3 q3 fun v4 r4 x5 => ?_
 obtain rfl := RV_int.1 r4
 have q5 := PT_field (part_Design_1).1 q1
 refine L_load (x := .tmp 5) Tryd.isAgg34 Tryd.sizeOf34 q5 fun v6 r6 i6 => ?_
 obtain ⟨y8, x6, h⟩ := bsome h
 refine E_drawL (g := g2) (n := 5) [(4, (fun v g w => RV g.m w y8 v))] [0, 1, 2, 3, 4] rfl mixed (by kernel_rfl) (⟨fun _ => up_rv, trivial⟩) ?_
 refine L_p (fPtr p1 0) rfl rfl (P_fieldAddr at_55_0 rfl (PT.ptr q1)) ?_
 refine L_ld (c := .int .i64 ((x0).Hooks)) rfl rfl .plain (fun _ _ h => h.ch) x5 rfl ?_
 refine L_p (fPtr p1 1) rfl rfl (P_fieldAddr at_55_1 rfl (PT.ptr q1)) ?_
 refine L_ld (c := v6) rfl rfl .plain (fun _ _ h => h.ch) i6 rfl ?_
 refine L_do (φ := fun v g w => RV g.m w y8 v) rfl rfl .plain (fun g w hd => D_call (g := g) (vs := [v6]) en28 (.cons rfl .nil) (wk28 (r6.ext hd.1) x6) fun g' w' v hs hr => ⟨g', hs, hr⟩) (fun v7 hv => ?_)
 obtain ⟨_, _, _, rq7⟩ := hv
 refine L_nil fun g9 w9 hall => ?_
 have hs := hall.1
 have hfr := hfr.ext hs
 have b2 := b2.ext hs
 have o0 := (word_all (A := fun g w => RV g.m w y8 v7) 4 rfl hall)
 clear hs hall
 have u3 : RV g9.m _ (⟨(x0).Hooks, y8⟩ : Design) (.agg (setCh [[.int .i64 0], [.slice none 0 0]] [(0, .int .i64 ((x0).Hooks)), (1, v7)]).flatten.toArray) := RV_build rfl (rep_pair (rfl) (rep_last (RV.cells o0)))
 generalize t5 : (Value.agg (setCh [[.int .i64 0], [.slice none 0 0]] [(0, .int .i64 ((x0).Hooks)), (1, v7)]).flatten.toArray) = l5 at u3
 refine EL_p l5 (t5 ▸ P_build (vs := [(0, .int .i64 ((x0).Hooks)), (1, v7)]) [[.int .i64 0], [.slice none 0 0]] lay_55 rfl rfl (.cons rfl (.cons rfl .nil)) ⟨⟨_, rfl, rfl⟩, ⟨⟨_, rfl, cells_size o0⟩, trivial⟩⟩) rfl ?_
 refine EL_do .plain rfl (D_storeOc (g := g9) (v := l5) Tryd.sizeOf55 rfl b2 rfl u3 fun i7 m7 hs b19 cb => ?_)
 clear cb
 have hfr := hfr.stp hs
 refine EL_nil (thn_n (E_ret ?_))
 obtain rfl := sinj h
 obtain ⟨ad20, cv20, hp20, hl20, cr20⟩ := ob_read Tryd.isAgg55 Tryd.sizeOf55 b19
 exact endm_c rfl rfl ((show _ = p2 from rfl).trans hp20) hl20 ⟨_, hfr, cr20⟩
def f53 (x0 : TieTieHarness) (x1 : Int) : Option (Str) :=
 Option.bind (α := List UInt8) (
  lp (σ := List UInt8 × Int) (fun z9 (i6, o0) =>
   bif (decide (o0 < ((((x0).TieHarness).Warps).length : Int))) then
    Option.bind (α := List UInt8) (
     (f101 x0 x1 o0).bind fun m8 =>
     (f100 m8).bind fun n8 =>
     (apnd 1 i6 [n8]).bind fun y43 =>
     some (y43)
     ) fun t5 =>
    z9 (t5, (w64 (o0 + (1 : Int))))
   else
    some (i6)
   ) big (([] : List UInt8), (0 : Int))
  ) fun x6 =>
 (sbstr x6).bind fun g8 =>
 some (g8)
theorem en53 : Enters Tryd.prog 53 := enters_of Tryd.func53 (by kernel_rfl) rfl
theorem wk53 {gI : Gh} {wI : World} {x0 : TieTieHarness} {x1 : Int} {up0 : Value} (rp0 : RV gI.m wI x0 up0) {r : Str} (h : f53 x0 x1 = some r) : Fn Tryd.prog 53 #[up0, .int .i64 (x1)] gI wI (fun _ _ v => v = Str.v (r)) := by
 unfold f53 at h
 refine fn_of_E Tryd.func53 rfl (Nat.le_of_ble_eq_true rfl) fun g0 hm hfr => ?_
 have rp0 : RV g0.m wI x0 up0 := hm ▸ rp0
 show E _ 22 none _ _ _ _ _
 refine E_seq (E_region (EL_do .plain rfl (D_box (g := g0) rfl rp0 fun g1 w1 p1 hs q1 => ?_)))
 have hfr := hfr.ext hs
 refine EL_at (Str.v (⟨[]⟩ : Str)) rfl rfl ?_
 refine EL_nil (thn_n (E_seq (E_region (EL_do .plain rfl (D_allocOc (g := g1) 2005 ((⟨.pointer none, rfl⟩, []) : Fv × List UInt8) Tryd.zeroValue203 (fun m w => ⟨_, rep_two (show GoT.rep m w (⟨.pointer none, rfl⟩ : Fv) [.pointer none] from rfl) rep_nil, rfl⟩) fun g2 w2 p2 hs b2 cb => ?_)))))
 have hfr := hfr.stp hs
 have q1 := q1.stp hs
 replace b2 : SB 2005 60501 g2 w2 5 203 [] p2 := ⟨_, b2, cb.osf rfl, .inl rfl⟩
 clear cb
 refine EL_nil (thn_n ?_)
 obtain ⟨x6, hx, h⟩ := bsome h
 refine E_join (fun e w => ∃ (g : Gh) , Fr gI wI g w ∧ e 5 = p2 ∧ SB 2005 60501 g w 5 203 (x6) p2) (fun Q' hQ => ?_) (fun yB rC hR => ?_)
 ·replace h := hx
  clear hx
  refine E_seq (E_region (EL_p (fPtr p1 0) (P_fieldAddr at_129_0 rfl (PT.ptr q1)) rfl ?_))
  have bA := PT_field (part_TieTieHarness_0).1 q1
  refine EL_p (fPtr (fPtr p1 0) 1) (P_fieldAddr at_52_1 rfl (PT.ptr bA)) rfl ?_
  have iB := PT_field (part_TieHarness_1).1 bA
  refine EL_do .plain rfl (D_load (g := g2) Tryd.isAgg34 Tryd.sizeOf34 rfl iB fun uC lB => ?_)
  refine EL_p (.int .i64 ((((x0).TieHarness).Warps).length : Int)) (P_len Tryd.underlying34 rfl lB) rfl ?_
  refine EL_mw (.int .i64 (0)) rfl rfl ?_
  refine EL_nil (thn_n (E_block ?_))
  refine E_lp h (fun (s : List UInt8 × Int) e w => ∃ (g : Gh) , Fr gI wI g w ∧ e 1 = .int .i64 (x1) ∧ e 2 = p1 ∧ PT g.m w (x0 : TieTieHarness) p1 ∧ e 5 = p2 ∧ SB 2005 60501 g w 5 203 (s.1) p2 ∧ e 10 = .int .i64 (((((x0).TieHarness).Warps).length : Int)) ∧ e 11 = .int .i64 (s.2)) ⟨g2, hfr, rfl, rfl, q1, rfl, b2, rfl, rfl⟩ (fun X27 z9 iA => ?_)
  rintro ⟨i6, o0⟩ zB vC ⟨r8, hfr, k8, l8, u3, y6, l5, i7, x5⟩ h
  refine E_seq (E_region (EL_p (.bool ((decide (o0 < ((((x0).TieHarness).Warps).length : Int))))) (P_int x5 i7 rfl) rfl ?_))
  refine EL_nil (thn_n (E_seq ?_))
  rcases csome h with ⟨m7, h⟩ | ⟨m7, h⟩
  ·refine E_ct m7 rfl ?_
   refine E_skip (thn_n ?_)
   obtain ⟨t5, hx, h⟩ := bsome h
   refine E_join (fun e w => ∃ (g : Gh) , Fr gI wI g w ∧ e 1 = .int .i64 (x1) ∧ e 2 = p1 ∧ PT g.m w (x0 : TieTieHarness) p1 ∧ e 5 = p2 ∧ SB 2005 60501 g w 5 203 (t5) p2 ∧ e 10 = .int .i64 (((((x0).TieHarness).Warps).length : Int)) ∧ e 11 = .int .i64 (o0)) (fun Q' hQ => ?_) (fun cC aD hR => ?_)
   ·replace h := hx
    clear hx
    refine E_block ?_
    refine E_seq (E_region (EL_mv x5 rfl ?_))
    refine EL_at (.int .i64 (o0)) rfl rfl ?_
    refine EL_nil (thn_n (E_region (EL_do .plain rfl (D_load (g := r8) Tryd.isAgg129 Tryd.sizeOf129 l8 u3 fun mB nB => ?_))))
    refine EL_mv k8 rfl ?_
    refine EL_mw (.int .i64 (o0)) rfl rfl ?_
    obtain ⟨m8, rA, h⟩ := bsome h
    refine EL_do .plain rfl (D_call (g := r8) (vs := [mB, .int .i64 (x1), .int .i64 (o0)]) en101 (.cons rfl (.cons rfl (.cons rfl .nil))) (wk101 nB rA) fun oB mC bD hs hr => ?_)
    have hfr := hfr.ext hs
    have u3 := u3.ext hs
    have l5 := l5.ext hs
    subst hr
    obtain ⟨n8, yA, h⟩ := bsome h
    refine EL_do .plain rfl (D_call (g := oB) (vs := [.bool (m8)]) en100 (.cons rfl .nil) (wk100  yA) fun cD qC eD hs hr => ?_)
    have hfr := hfr.ext hs
    have u3 := u3.ext hs
    have l5 := l5.ext hs
    subst hr
    obtain ⟨y43, aB, h⟩ := bsome h
    refine EL_do .plain rfl (D_callC (vs := [p2, .int .u8 (UInt8.toNat (n8))]) en99 (.cons y6 (.cons rfl .nil)) (wk99 (i := 2005) (j := 60501) rfl rfl l5 aB) fun gD iD hq => ?_)
    obtain ⟨hv, tB, ⟨_, _, _, _, hs1, hs2, hs3⟩, b42⟩ := hq
    subst hv
    have hfr := hfr.stp hs1
    have u3 := u3.stp hs1
    have hfr := hfr.stp hs2
    have u3 := u3.stp hs2
    have hfr := hfr.stp hs3
    have u3 := u3.stp hs3
    clear hs1 hs2 hs3
    refine EL_nil (blk_n ?_)
    obtain rfl := sinj h
    exact hQ _ _ ⟨tB, hfr, k8, l8, u3, y6, b42, i7, x5⟩
   ·clear hx
    obtain ⟨vB, hfr, a9, d9, k9, l9, n9, v8, x8⟩ := hR
    refine E_region (EL_in (.int .i64 ((w64 (o0 + (1 : Int))))) x8 rfl rfl rfl ?_)
    refine EL_mw (.int .i64 ((w64 (o0 + (1 : Int))))) rfl rfl ?_
    exact EL_nil (thn_n (iA (t5, (w64 (o0 + (1 : Int)))) _ _ ⟨vB, hfr, a9, d9, k9, l9, n9, v8, rfl⟩ h))
  ·refine E_cf m7 rfl ?_
   refine E_exit ?_
   refine thn_e ?_
   refine thn_e ?_
   refine blk_hit ?_
   obtain rfl := sinj h
   exact hQ _ _ ⟨r8, hfr, y6, l5⟩
 ·clear hx
  obtain ⟨jD, hfr, u9, y9⟩ := hR
  refine E_seq (E_region ?_)
  obtain ⟨g8, dB, h⟩ := bsome h
  obtain ⟨hne46, hye46⟩ := sbstr_h dB
  refine EL_do .plain rfl (D_callC (vs := [p2]) en102 (.cons u9 .nil) (wk102 (i := 2005) (j := 60501) rfl y9 hne46) fun lD nD hq => ?_)
  obtain ⟨hv, oD, hs⟩ := hq
  rw [← hye46] at hv
  subst hv
  have hfr := hfr.stp hs
  refine EL_at (Str.v g8) rfl rfl ?_
  refine EL_nil (thn_n (E_ret ?_))
  obtain rfl := sinj h
  exact end1 rfl rfl (show _ = Str.v g8 from rfl) ⟨_, hfr, rfl⟩
def f91 (x0 : List Int) (x1 : Int → Option Bool) : Option (Bool) :=
 (f147 x0 x1).bind fun y2 =>
 some ((decide (y2 ≥ (0 : Int))))
theorem en91 : Enters Tryd.prog 91 := enters_of Tryd.func91 (by kernel_rfl) rfl
theorem wk91 {gI : Gh} {wI : World} {x0 : List Int} {x1 : Int → Option Bool} {up0 : Value} (rp0 : RV gI.m wI x0 up0) {up1 : Value} (rp1 : FnV1 Tryd.prog x1 up1 gI wI) {r : Bool} (h : f91 x0 x1 = some r) : Fn Tryd.prog 91 #[up0, up1] gI wI (fun _ _ v => v = .bool (r)) := by
 unfold f91 at h
 refine fn_of_E Tryd.func91 rfl (Nat.le_of_ble_eq_true rfl) fun g0 hm hfr => ?_
 have rp0 : RV g0.m wI x0 up0 := hm ▸ rp0
 obtain ⟨ff1, fa1, fc1, rfl, fen1, fcl1⟩ := rp1
 show E _ 9 none _ _ _ _ _
 refine E_seq (E_region (EL_at (.bool false) rfl rfl ?_))
 refine EL_nil (thn_n (E_seq (E_region (EL_mw up0 rfl rfl ?_))))
 refine EL_mw ((.func (.func ff1) fa1 fc1)) rfl rfl ?_
 obtain ⟨y2, hy2, h⟩ := bsome h
 refine EL_do .plain rfl (D_call (g := g0) (vs := [up0, (.func (.func ff1) fa1 fc1)]) en147 (.cons rfl (.cons rfl .nil)) (wk147 rp0 (FnV1.ch ⟨_, _, _, rfl, fen1, fcl1⟩ hfr.ch) hy2) fun g1 w1_ v1 hs hr => ?_)
 have hfr := hfr.ext hs
 subst hr
 refine EL_in (.bool ((decide (y2 ≥ (0 : Int))))) rfl rfl rfl rfl ?_
 refine EL_at (.bool ((decide (y2 ≥ (0 : Int))))) rfl rfl ?_
 refine EL_nil (thn_n (E_ret ?_))
 obtain rfl := sinj h
 exact end1 rfl rfl (show _ = .bool ((decide (y2 ≥ (0 : Int)))) from rfl) ⟨_, hfr, rfl⟩
def f98 (x0 : Int) (x1 : Int) (x2 : List Int) : Option (Bool) :=
 (f91 x2 ((fun a0 => f154 a0 x0 x1))).bind fun y4 =>
 some ((!y4))
theorem en98 : Enters Tryd.prog 98 := enters_of Tryd.func98 (by kernel_rfl) rfl
theorem wk98 {gI : Gh} {wI : World} {x0 : Int} {x1 : Int} {x2 : List Int} {up2 : Value} (rp2 : RV gI.m wI x2 up2) {r : Bool} (h : f98 x0 x1 x2 = some r) : Fn Tryd.prog 98 #[.int .i64 (x0), .int .i64 (x1), up2] gI wI (fun _ _ v => v = .bool (r)) := by
 unfold f98 at h
 refine fn_of_E Tryd.func98 rfl (Nat.le_of_ble_eq_true rfl) fun g0 hm hfr => ?_
 have rp2 : RV g0.m wI x2 up2 := hm ▸ rp2
 show E _ 11 none _ _ _ _ _
 refine E_seq (E_region (EL_do .plain rfl (D_box (g := g0) rfl (RV_int.2 rfl) fun g1 w1 p1 hs q1 => ?_)))
 have hfr := hfr.ext hs
 have rp2 := rp2.ext hs
 refine EL_do .plain rfl (D_box (g := g1) rfl (RV_int.2 rfl) fun g2 w2 p2 hs q2 => ?_)
 have hfr := hfr.ext hs
 have rp2 := rp2.ext hs
 have q1 := q1.ext hs
 refine EL_at (.bool false) rfl rfl ?_
 refine EL_nil (thn_n (E_seq (E_region (EL_mw up2 rfl rfl ?_))))
 refine EL_p ((.func (.func 154) #[] #[p1, p2])) (P_makeFunc (capf_0_2 (show ev _ _ = p1 from rfl) (show ev _ _ = p2 from rfl))) rfl ?_
 obtain ⟨y4, o0, h⟩ := bsome h
 refine EL_do .plain rfl (D_call (g := g2) (vs := [up2, (.func (.func 154) #[] #[p1, p2])]) en91 (.cons rfl (.cons rfl .nil)) (wk91 rp2 ⟨154, #[], #[p1, p2], rfl, en154, fun g' w' hch a0 b0 r hu0 hr => by obtain rfl := RV_int.1 hu0; exact Fn.mono (wk154  (q1.ch hch) (q2.ch hch) hr) fun _ _ _ h => RV_bool.2 h⟩ o0) fun g3 w3_ v3 hs hr => ?_)
 have hfr := hfr.ext hs
 subst hr
 refine EL_p (.bool (!y4)) (P_not rfl) rfl ?_
 refine EL_at (.bool (!y4)) rfl rfl ?_
 refine EL_nil (thn_n (E_ret ?_))
 obtain rfl := sinj h
 exact end1 rfl rfl (show _ = .bool (!y4) from rfl) ⟨_, hfr, rfl⟩
def f112 (x0 : Int) (x1 : Int) (x2 : List Int) : Option (Bool) :=
 (f91 x2 ((fun a0 => f164 a0 x0 x1))).bind fun y4 =>
 some ((!y4))
theorem en112 : Enters Tryd.prog 112 := enters_of Tryd.func112 (by kernel_rfl) rfl
theorem wk112 {gI : Gh} {wI : World} {x0 : Int} {x1 : Int} {x2 : List Int} {up2 : Value} (rp2 : RV gI.m wI x2 up2) {r : Bool} (h : f112 x0 x1 x2 = some r) : Fn Tryd.prog 112 #[.int .i64 (x0), .int .i64 (x1), up2] gI wI (fun _ _ v => v = .bool (r)) := by
 unfold f112 at h
 refine fn_of_E Tryd.func112 rfl (Nat.le_of_ble_eq_true rfl) fun g0 hm hfr => ?_
 have rp2 : RV g0.m wI x2 up2 := hm ▸ rp2
 show E _ 11 none _ _ _ _ _
 refine E_seq (E_region (EL_do .plain rfl (D_box (g := g0) rfl (RV_int.2 rfl) fun g1 w1 p1 hs q1 => ?_)))
 have hfr := hfr.ext hs
 have rp2 := rp2.ext hs
 refine EL_do .plain rfl (D_box (g := g1) rfl (RV_int.2 rfl) fun g2 w2 p2 hs q2 => ?_)
 have hfr := hfr.ext hs
 have rp2 := rp2.ext hs
 have q1 := q1.ext hs
 refine EL_at (.bool false) rfl rfl ?_
 refine EL_nil (thn_n (E_seq (E_region (EL_mw up2 rfl rfl ?_))))
 refine EL_p ((.func (.func 164) #[] #[p1, p2])) (P_makeFunc (capf_0_2 (show ev _ _ = p1 from rfl) (show ev _ _ = p2 from rfl))) rfl ?_
 obtain ⟨y4, o0, h⟩ := bsome h
 refine EL_do .plain rfl (D_call (g := g2) (vs := [up2, (.func (.func 164) #[] #[p1, p2])]) en91 (.cons rfl (.cons rfl .nil)) (wk91 rp2 ⟨164, #[], #[p1, p2], rfl, en164, fun g' w' hch a0 b0 r hu0 hr => by obtain rfl := RV_int.1 hu0; exact Fn.mono (wk164  (q1.ch hch) (q2.ch hch) hr) fun _ _ _ h => RV_bool.2 h⟩ o0) fun g3 w3_ v3 hs hr => ?_)
 have hfr := hfr.ext hs
 subst hr
 refine EL_p (.bool (!y4)) (P_not rfl) rfl ?_
 refine EL_at (.bool (!y4)) rfl rfl ?_
 refine EL_nil (thn_n (E_ret ?_))
 obtain rfl := sinj h
 exact end1 rfl rfl (show _ = .bool (!y4) from rfl) ⟨_, hfr, rfl⟩
def f115 (x0 : List Int) : Option (It (Int × Int)) :=
 some ((fun σ cons s => f165 x0 σ cons s))
theorem en115 : Enters Tryd.prog 115 := enters_of Tryd.func115 (by kernel_rfl) rfl
theorem wk115 {gI : Gh} {wI : World} {x0 : List Int} {up0 : Value} (rp0 : RV gI.m wI x0 up0) {r : It (Int × Int)} (h : f115 x0 = some r) : Fn Tryd.prog 115 #[up0] gI wI (fun m w v => ItV Tryd.prog (RA2 (α := Int) (β := Int)) (r) v m w) := by
 unfold f115 at h
 refine fn_of_E Tryd.func115 rfl (Nat.le_of_ble_eq_true rfl) fun g0 hm hfr => ?_
 have rp0 : RV g0.m wI x0 up0 := hm ▸ rp0
 show E _ 4 none _ _ _ _ _
 refine E_seq (E_region (EL_do .plain rfl (D_box (g := g0) rfl rp0 fun g1 w1 p1 hs q1 => ?_)))
 have hfr := hfr.ext hs
 refine EL_at (.nilFunc) rfl rfl ?_
 refine EL_nil (thn_n (E_seq (E_region (EL_p ((.func (.func 165) #[] #[p1])) (P_makeFunc (capf_0_1 (show ev _ _ = p1 from rfl))) rfl ?_))))
 refine EL_at ((.func (.func 165) #[] #[p1])) rfl rfl ?_
 refine EL_nil (thn_n (E_ret ?_))
 obtain rfl := sinj h
 exact end1 rfl rfl (show _ = (.func (.func 165) #[] #[p1]) from rfl) ⟨_, hfr, (show ItV Tryd.prog (RA2 (α := Int) (β := Int)) (fun σ cons s => f165 x0 σ cons s) ((.func (.func 165) #[] #[p1])) g1.m w1 from ⟨165, #[], #[p1], rfl, en165, fun g' w' hch σ cons s s' h => wk165  (q1.ch hch) h⟩)⟩
def f117 (x0 : List Int) : Option (Int) :=
 jn (σ := Unit) (fun _ =>
  some ((0 : Int))
  ) fun k5 =>
 bif (decide (((x0).length : Int) > (96 : Int))) then
  some ((5 : Int))
 else
  (f112 ((-1 : Int)) ((95 : Int)) x0).bind fun y8 =>
  bif (!y8) then
   some ((2 : Int))
  else
   k5 ()
theorem en117 : Enters Tryd.prog 117 := enters_of Tryd.func117 (by kernel_rfl) rfl
theorem wk117 {gI : Gh} {wI : World} {x0 : List Int} {up0 : Value} (rp0 : RV gI.m wI x0 up0) {r : Int} (h : f117 x0 = some r) : Fn Tryd.prog 117 #[up0] gI wI (fun _ _ v => v = .int .i64 (r)) := by
 unfold f117 at h
 refine fn_of_E Tryd.func117 rfl (Nat.le_of_ble_eq_true rfl) fun g0 hm hfr => ?_
 have rp0 : RV g0.m wI x0 up0 := hm ▸ rp0
 show E _ 11 none _ _ _ _ _
 refine E_seq (E_region (EL_at (.int .i64 (0)) rfl rfl ?_))
 refine EL_nil (thn_n (E_joinC h (fun (s : Unit) e w => ∃ (g : Gh) , Fr gI wI g w) (fun X5 k5 hk5 h => ?_) ?_))
 ·refine E_block ?_
  refine E_seq (E_region (EL_mw up0 rfl rfl ?_))
  refine EL_p (.int .i64 ((x0).length : Int)) (P_len Tryd.underlying34 rfl rp0) rfl ?_
  refine EL_in (.bool ((decide (((x0).length : Int) > (96 : Int))))) rfl rfl rfl rfl ?_
  refine EL_at (.bool ((decide (((x0).length : Int) > (96 : Int))))) rfl rfl ?_
  refine EL_nil (thn_n ?_)
  rcases csome h with ⟨hc6, h⟩ | ⟨hc6, h⟩
  ·refine E_ct hc6 rfl ?_
   refine E_seq (E_region (EL_at (.int .i64 (5)) rfl rfl ?_))
   refine EL_nil (thn_n (E_ret (blk_r ?_)))
   refine thn_r ?_
   obtain rfl := sinj h
   exact end1 rfl rfl (show _ = .int .i64 (5) from rfl) ⟨_, hfr, rfl⟩
  ·refine E_cf hc6 rfl ?_
   refine E_seq (E_region (EL_mw up0 rfl rfl ?_))
   obtain ⟨y8, u3, h⟩ := bsome h
   refine EL_do .plain rfl (D_call (g := g0) (vs := [.int .i64 (-1), .int .i64 (95), up0]) en112 (.cons rfl (.cons rfl (.cons rfl .nil))) (wk112 rp0 u3) fun g7 w7_ v7 hs hr => ?_)
   have hfr := hfr.ext hs
   subst hr
   refine EL_p (.bool (!y8)) (P_not rfl) rfl ?_
   refine EL_at (.bool (!y8)) rfl rfl ?_
   refine EL_nil (thn_n ?_)
   rcases csome h with ⟨o0, h⟩ | ⟨o0, h⟩
   ·refine E_ct o0 rfl ?_
    refine E_seq (E_region (EL_at (.int .i64 (2)) rfl rfl ?_))
    refine EL_nil (thn_n (E_ret (blk_r ?_)))
    refine thn_r ?_
    obtain rfl := sinj h
    exact end1 rfl rfl (show _ = .int .i64 (2) from rfl) ⟨_, hfr, rfl⟩
   ·refine E_cf o0 rfl ?_
    exact E_skip (blk_n (thn_n (hk5 () _ _ ⟨g7, hfr⟩ h)))
 ·rintro _ l5 t5 ⟨x5, hfr⟩ h
  refine E_seq (E_region (EL_at (.int .i64 (0)) rfl rfl ?_))
  refine EL_nil (thn_n (E_ret ?_))
  obtain rfl := sinj h
  exact end1 rfl rfl (show _ = .int .i64 (0) from rfl) ⟨_, hfr, rfl⟩
def f121 (x0 : List Int) : Option (Int) :=
 (apnd 8 (([(0 : Int)] : List Int)) x0).bind fun y3 =>
 (f167 y3).bind fun y5 =>
 some (y5)
theorem en121 : Enters Tryd.prog 121 := enters_of Tryd.func121 (by kernel_rfl) rfl
theorem wk121 {gI : Gh} {wI : World} {x0 : List Int} {up0 : Value} (rp0 : RV gI.m wI x0 up0) {r : Int} (h : f121 x0 = some r) : Fn Tryd.prog 121 #[up0] gI wI (fun _ _ v => v = .int .i64 (r)) := by
 unfold f121 at h
 refine fn_of_E Tryd.func121 rfl (Nat.le_of_ble_eq_true rfl) fun g0 hm hfr => ?_
 have rp0 : RV g0.m wI x0 up0 := hm ▸ rp0
 show E _ 7 none _ _ _ _ _
 refine E_seq (E_region (EL_at (.int .i64 (0)) rfl rfl ?_))
 refine EL_nil (thn_n (E_seq (E_region (EL_do .plain rfl (D_buildSlice (g := g0) 3003 (xs := ([(0 : Int)] : List Int)) (vs := [.int .i64 (0)]) Tryd.underlying34 Tryd.sizeOf3 Tryd.zeroValue3 rfl rfl (.cons rfl .nil) (RVs.cons (RV_int.2 rfl) RVs.nil) rfl rfl fun g1 w1 v1 hs o1 r1 hxt hfl => ?_)))))
 have hfr := hfr.stp hs
 have rp0 := rp0.stp hs
 refine EL_mw up0 rfl rfl ?_
 obtain ⟨y3, hy3, h⟩ := bsome h
 refine EL_do .plain rfl (D_append (g := g1) (i := 3003) Tryd.underlying34 info_3 rfl rfl o1 r1 rfl rp0 hy3 fun g2 w2 v2 hs o2 r2 _ => ?_)
 have hfr := hfr.stp hs
 obtain ⟨y5, hy5, h⟩ := bsome h
 refine EL_do .plain rfl (D_call (g := g2) (vs := [v2]) en167 (.cons rfl .nil) (wk167 r2 hy5) fun g4 w4_ v4 hs hr => ?_)
 have hfr := hfr.ext hs
 subst hr
 refine EL_at (.int .i64 (y5)) rfl rfl ?_
 refine EL_nil (thn_n (E_ret ?_))
 obtain rfl := sinj h
 exact end1 rfl rfl (show _ = .int .i64 (y5) from rfl) ⟨_, hfr, rfl⟩
def f125 (x0 : List Str) (x1 : Str → Option Bool) : Option (Bool) :=
 (f175 x0 x1).bind fun y2 =>
 some ((decide (y2 ≥ (0 : Int))))
theorem en125 : Enters Tryd.prog 125 := enters_of Tryd.func125 (by kernel_rfl) rfl
theorem wk125 {gI : Gh} {wI : World} {x0 : List Str} {x1 : Str → Option Bool} {up0 : Value} (rp0 : RV gI.m wI x0 up0) {up1 : Value} (rp1 : FnV1 Tryd.prog x1 up1 gI wI) {r : Bool} (h : f125 x0 x1 = some r) : Fn Tryd.prog 125 #[up0, up1] gI wI (fun _ _ v => v = .bool (r)) := by
 unfold f125 at h
 refine fn_of_E Tryd.func125 rfl (Nat.le_of_ble_eq_true rfl) fun g0 hm hfr => ?_
 have rp0 : RV g0.m wI x0 up0 := hm ▸ rp0
 obtain ⟨ff1, fa1, fc1, rfl, fen1, fcl1⟩ := rp1
 show E _ 9 none _ _ _ _ _
 refine E_seq (E_region (EL_at (.bool false) rfl rfl ?_))
 refine EL_nil (thn_n (E_seq (E_region (EL_mw up0 rfl rfl ?_))))
 refine EL_mw ((.func (.func ff1) fa1 fc1)) rfl rfl ?_
 obtain ⟨y2, hy2, h⟩ := bsome h
 refine EL_do .plain rfl (D_call (g := g0) (vs := [up0, (.func (.func ff1) fa1 fc1)]) en175 (.cons rfl (.cons rfl .nil)) (wk175 rp0 (FnV1.ch ⟨_, _, _, rfl, fen1, fcl1⟩ hfr.ch) hy2) fun g1 w1_ v1 hs hr => ?_)
 have hfr := hfr.ext hs
 subst hr
 refine EL_in (.bool ((decide (y2 ≥ (0 : Int))))) rfl rfl rfl rfl ?_
 refine EL_at (.bool ((decide (y2 ≥ (0 : Int))))) rfl rfl ?_
 refine EL_nil (thn_n (E_ret ?_))
 obtain rfl := sinj h
 exact end1 rfl rfl (show _ = .bool ((decide (y2 ≥ (0 : Int)))) from rfl) ⟨_, hfr, rfl⟩
def f162 (x0 : It Int) : Option ((List Int)) :=
 (f195 x0).bind fun y2 =>
 some (y2)
theorem en162 : Enters Tryd.prog 162 := enters_of Tryd.func162 (by kernel_rfl) rfl
def f163 (x0 : Int) (x1 : Int) : Option (It Int) :=
 some ((fun σ cons s => f196 x1 x0 σ cons s))
theorem en163 : Enters Tryd.prog 163 := enters_of Tryd.func163 (by kernel_rfl) rfl
theorem wk163 {gI : Gh} {wI : World} {x0 : Int} {x1 : Int}  {r : It Int} (h : f163 x0 x1 = some r) : Fn Tryd.prog 163 #[.int .i64 (x0), .int .i64 (x1)] gI wI (fun m w v => ItV Tryd.prog (RA1 (α := Int)) (r) v m w) := by
 unfold f163 at h
 refine fn_of_E Tryd.func163 rfl (Nat.le_of_ble_eq_true rfl) fun g0 hm hfr => ?_
 show E _ 6 none _ _ _ _ _
 refine E_seq (E_region (EL_do .plain rfl (D_box (g := g0) rfl (RV_int.2 rfl) fun g1 w1 p1 hs q1 => ?_)))
 have hfr := hfr.ext hs
 refine EL_do .plain rfl (D_box (g := g1) rfl (RV_int.2 rfl) fun g2 w2 p2 hs q2 => ?_)
 have hfr := hfr.ext hs
 have q1 := q1.ext hs
 refine EL_at (.nilFunc) rfl rfl ?_
 refine EL_nil (thn_n (E_seq (E_region (EL_p ((.func (.func 196) #[] #[p2, p1])) (P_makeFunc (capf_0_2 (show ev _ _ = p2 from rfl) (show ev _ _ = p1 from rfl))) rfl ?_))))
 refine EL_at ((.func (.func 196) #[] #[p2, p1])) rfl rfl ?_
 refine EL_nil (thn_n (E_ret ?_))
 obtain rfl := sinj h
 exact end1 rfl rfl (show _ = (.func (.func 196) #[] #[p2, p1]) from rfl) ⟨_, hfr, (show ItV Tryd.prog (RA1 (α := Int)) (fun σ cons s => f196 x1 x0 σ cons s) ((.func (.func 196) #[] #[p2, p1])) g2.m w2 from ⟨196, #[], #[p2, p1], rfl, en196, fun g' w' hch σ cons s s' h => wk196  (q2.ch hch) (q1.ch hch) h⟩)⟩
def f166 (x0 : List EyeThread) : Option (It (Int × EyeThread)) :=
 some ((fun σ cons s => f197 x0 σ cons s))
theorem en166 : Enters Tryd.prog 166 := enters_of Tryd.func166 (by kernel_rfl) rfl
theorem wk166 {gI : Gh} {wI : World} {x0 : List EyeThread} {up0 : Value} (rp0 : RV gI.m wI x0 up0) {r : It (Int × EyeThread)} (h : f166 x0 = some r) : Fn Tryd.prog 166 #[up0] gI wI (fun m w v => ItV Tryd.prog (RA2 (α := Int) (β := EyeThread)) (r) v m w) := by
 unfold f166 at h
 refine fn_of_E Tryd.func166 rfl (Nat.le_of_ble_eq_true rfl) fun g0 hm hfr => ?_
 have rp0 : RV g0.m wI x0 up0 := hm ▸ rp0
 show E _ 4 none _ _ _ _ _
 refine E_seq (E_region (EL_do .plain rfl (D_box (g := g0) rfl rp0 fun g1 w1 p1 hs q1 => ?_)))
 have hfr := hfr.ext hs
 refine EL_at (.nilFunc) rfl rfl ?_
 refine EL_nil (thn_n (E_seq (E_region (EL_p ((.func (.func 197) #[] #[p1])) (P_makeFunc (capf_0_1 (show ev _ _ = p1 from rfl))) rfl ?_))))
 refine EL_at ((.func (.func 197) #[] #[p1])) rfl rfl ?_
 refine EL_nil (thn_n (E_ret ?_))
 obtain rfl := sinj h
 exact end1 rfl rfl (show _ = (.func (.func 197) #[] #[p1]) from rfl) ⟨_, hfr, (show ItV Tryd.prog (RA2 (α := Int) (β := EyeThread)) (fun σ cons s => f197 x0 σ cons s) ((.func (.func 197) #[] #[p1])) g1.m w1 from ⟨197, #[], #[p1], rfl, en197, fun g' w' hch σ cons s s' h => wk197  (q1.ch hch) h⟩)⟩
def f171 (x0 : Str) (x1 : Vector Bool 256) : Option (Str) :=
 Option.bind (α := Str) (
  lp (σ := Str) (fun k18 o0 =>
   jn (σ := Unit) (fun _ =>
    jn (σ := Unit) (fun _ =>
     (cut (o0).b (1 : Int) ((o0).b.length : Int)).bind fun i6 =>
     k18 ((⟨i6⟩ : Str))
     ) fun k28 =>
    (idx (o0).b (0 : Int)).bind fun i7 =>
    (f198 x1 i7).bind fun g8 =>
    bif (!g8) then
     some (o0)
    else
     k28 ()
    ) fun x8 =>
   bif (decide (((o0).b.length : Int) > (0 : Int))) then
    x8 ()
   else
    some (o0)
   ) big (x0)
  ) fun u3 =>
 some (u3)
theorem en171 : Enters Tryd.prog 171 := enters_of Tryd.func171 (by kernel_rfl) rfl
theorem wk171 {gI : Gh} {wI : World} {x0 : Str} {x1 : Vector Bool 256} {up1 : Value} (rp1 : PT gI.m wI x1 up1) {r : Str} (h : f171 x0 x1 = some r) : Fn Tryd.prog 171 #[Str.v (x0), up1] gI wI (fun _ _ v => v = Str.v (r)) := by
 unfold f171 at h
 refine fn_of_E Tryd.func171 rfl (Nat.le_of_ble_eq_true rfl) fun g0 hm hfr => ?_
 have rp1 : PT g0.m wI x1 up1 := hm ▸ rp1
 show E _ 16 none _ _ _ _ _
 refine E_seq (E_region (EL_at (Str.v (⟨[]⟩ : Str)) rfl rfl ?_))
 refine EL_nil (thn_n ?_)
 obtain ⟨u3, hx, h⟩ := bsome h
 refine E_join (fun e w => ∃ (g : Gh) , Fr gI wI g w ∧ e 0 = Str.v (u3)) (fun Q' hQ => ?_) (fun rA lB hR => ?_)
 ·replace h := hx
  clear hx
  refine E_block ?_
  refine E_lp h (fun (s : Str) e w => ∃ (g : Gh) , Fr gI wI g w ∧ e 0 = Str.v (s) ∧ e 1 = up1 ∧ PT g.m w (x1 : Vector Bool 256) up1) ⟨g0, hfr, rfl, rfl, rp1⟩ (fun X18 k18 k9 => ?_)
  rintro o0 yA mB ⟨a9, hfr, t5, k8, l8⟩ h
  refine E_joinC h (fun (s : Unit) e w => ∃ (g : Gh) , Fr gI wI g w ∧ e 0 = Str.v (o0) ∧ e 1 = up1 ∧ PT g.m w (x1 : Vector Bool 256) up1) (fun X21 x8 l9 h => ?_) ?_
  ·refine E_seq (E_region (EL_mv t5 rfl ?_))
   refine EL_p (.int .i64 ((o0).b.length : Int)) (P_lenS Tryd.underlying9 rfl) rfl ?_
   refine EL_in (.bool ((decide (((o0).b.length : Int) > (0 : Int))))) rfl rfl rfl rfl ?_
   refine EL_nil (thn_n ?_)
   rcases csome h with ⟨x6, h⟩ | ⟨x6, h⟩
   ·refine E_ct x6 rfl ?_
    exact E_skip (thn_n (l9 () _ _ ⟨a9, hfr, t5, k8, l8⟩ h))
   ·refine E_cf x6 rfl ?_
    refine E_exit ?_
    refine thn_e ?_
    refine thn_e ?_
    refine blk_hit ?_
    obtain rfl := sinj h
    exact hQ _ _ ⟨a9, hfr, t5⟩
  ·rintro _ aB nB ⟨bA, hfr, x5, m7, l5⟩ h
   refine E_block ?_
   refine E_joinC h (fun (s : Unit) e w => ∃ (g : Gh) , Fr gI wI g w ∧ e 0 = Str.v (o0) ∧ e 1 = up1 ∧ PT g.m w (x1 : Vector Bool 256) up1) (fun X28 k28 n9 h => ?_) ?_
   ·refine E_seq (E_region (EL_mv m7 rfl ?_))
    refine EL_mv x5 rfl ?_
    obtain ⟨i7, u9, h⟩ := bsome h
    refine EL_p (.int .u8 (UInt8.toNat (i7))) (P_indexS Tryd.underlying9 rfl rfl u9) rfl ?_
    obtain ⟨g8, y9, h⟩ := bsome h
    refine EL_do .plain rfl (D_call (g := bA) (vs := [up1, .int .u8 (UInt8.toNat (i7))]) en198 (.cons rfl (.cons rfl .nil)) (wk198 l5 y9) fun d9 dB oB hs hr => ?_)
    have hfr := hfr.ext hs
    have l5 := l5.ext hs
    subst hr
    refine EL_p (.bool (!g8)) (P_not rfl) rfl ?_
    refine EL_nil (thn_n ?_)
    rcases csome h with ⟨y6, h⟩ | ⟨y6, h⟩
    ·refine E_ct y6 rfl ?_
     refine E_exit ?_
     refine thn_e ?_
     refine blk_miss rfl ?_
     refine thn_e ?_
     refine blk_hit ?_
     obtain rfl := sinj h
     exact hQ _ _ ⟨d9, hfr, x5⟩
    ·refine E_cf y6 rfl ?_
     exact E_skip (thn_n (n9 () _ _ ⟨d9, hfr, x5, m7, l5⟩ h))
   ·rintro _ iB tB ⟨iA, hfr, m8, n8, r8⟩ h
    refine E_region (EL_mv m8 rfl ?_)
    obtain ⟨i6, z9, h⟩ := bsome h
    refine EL_p (Str.v (⟨i6⟩ : Str)) (P_sliceS Tryd.underlying9 rfl rfl rfl z9) rfl ?_
    refine EL_at (Str.v (⟨i6⟩ : Str)) rfl rfl ?_
    exact EL_nil (blk_n (thn_n (k9 ((⟨i6⟩ : Str)) _ _ ⟨iA, hfr, rfl, n8, r8⟩ h)))
 ·clear hx
  obtain ⟨vB, hfr, v8⟩ := hR
  refine E_seq (E_region (EL_mv v8 rfl ?_))
  refine EL_at (Str.v (u3)) rfl rfl ?_
  refine EL_nil (thn_n (E_ret ?_))
  obtain rfl := sinj h
  exact end1 rfl rfl (show _ = Str.v (u3) from rfl) ⟨_, hfr, rfl⟩
def f172 (x0 : Str) (x1 : Vector Bool 256) : Option (Str) :=
 Option.bind (α := Str) (
  lp (σ := Str) (fun k18 o0 =>
   jn (σ := Unit) (fun _ =>
    jn (σ := Unit) (fun _ =>
     (cut (o0).b 0 (w64 (((o0).b.length : Int) - (1 : Int)))).bind fun i6 =>
     k18 ((⟨i6⟩ : Str))
     ) fun k28 =>
    (idx (o0).b (w64 (((o0).b.length : Int) - (1 : Int)))).bind fun i7 =>
    (f198 x1 i7).bind fun k8 =>
    bif (!k8) then
     some (o0)
    else
     k28 ()
    ) fun x8 =>
   bif (decide (((o0).b.length : Int) > (0 : Int))) then
    x8 ()
   else
    some (o0)
   ) big (x0)
  ) fun u3 =>
 some (u3)
theorem en172 : Enters Tryd.prog 172 := enters_of Tryd.func172 (by kernel_rfl) rfl
theorem wk172 {gI : Gh} {wI : World} {x0 : Str} {x1 : Vector Bool 256} {up1 : Value} (rp1 : PT gI.m wI x1 up1) {r : Str} (h : f172 x0 x1 = some r) : Fn Tryd.prog 172 #[Str.v (x0), up1] gI wI (fun _ _ v => v = Str.v (r)) := by
 unfold f172 at h
 refine fn_of_E Tryd.func172 rfl (Nat.le_of_ble_eq_true rfl) fun g0 hm hfr => ?_
 have rp1 : PT g0.m wI x1 up1 := hm ▸ rp1
 show E _ 22 none _ _ _ _ _
 refine E_seq (E_region (EL_at (Str.v (⟨[]⟩ : Str)) rfl rfl ?_))
 refine EL_nil (thn_n ?_)
 obtain ⟨u3, hx, h⟩ := bsome h
 refine E_join (fun e w => ∃ (g : Gh) , Fr gI wI g w ∧ e 0 = Str.v (u3)) (fun Q' hQ => ?_) (fun rA lB hR => ?_)
 ·replace h := hx
  clear hx
  refine E_block ?_
  refine E_lp h (fun (s : Str) e w => ∃ (g : Gh) , Fr gI wI g w ∧ e 0 = Str.v (s) ∧ e 1 = up1 ∧ PT g.m w (x1 : Vector Bool 256) up1) ⟨g0, hfr, rfl, rfl, rp1⟩ (fun X18 k18 k9 => ?_)
  rintro o0 yA mB ⟨a9, hfr, x5, l8, m8⟩ h
  refine E_joinC h (fun (s : Unit) e w => ∃ (g : Gh) , Fr gI wI g w ∧ e 0 = Str.v (o0) ∧ e 1 = up1 ∧ PT g.m w (x1 : Vector Bool 256) up1) (fun X21 x8 l9 h => ?_) ?_
  ·refine E_seq (E_region (EL_mv x5 rfl ?_))
   refine EL_p (.int .i64 ((o0).b.length : Int)) (P_lenS Tryd.underlying9 rfl) rfl ?_
   refine EL_in (.bool ((decide (((o0).b.length : Int) > (0 : Int))))) rfl rfl rfl rfl ?_
   refine EL_nil (thn_n ?_)
   rcases csome h with ⟨x6, h⟩ | ⟨x6, h⟩
   ·refine E_ct x6 rfl ?_
    exact E_skip (thn_n (l9 () _ _ ⟨a9, hfr, x5, l8, m8⟩ h))
   ·refine E_cf x6 rfl ?_
    refine E_exit ?_
    refine thn_e ?_
    refine thn_e ?_
    refine blk_hit ?_
    obtain rfl := sinj h
    exact hQ _ _ ⟨a9, hfr, x5⟩
  ·rintro _ aB nB ⟨bA, hfr, l5, m7, t5⟩ h
   refine E_block ?_
   refine E_joinC h (fun (s : Unit) e w => ∃ (g : Gh) , Fr gI wI g w ∧ e 0 = Str.v (o0) ∧ e 1 = up1 ∧ PT g.m w (x1 : Vector Bool 256) up1) (fun X28 k28 n9 h => ?_) ?_
   ·refine E_seq (E_region (EL_mv m7 rfl ?_))
    refine EL_mv l5 rfl ?_
    refine EL_mv l5 rfl ?_
    refine EL_p (.int .i64 ((o0).b.length : Int)) (P_lenS Tryd.underlying9 rfl) rfl ?_
    refine EL_in (.int .i64 ((w64 (((o0).b.length : Int) - (1 : Int))))) rfl rfl rfl rfl ?_
    obtain ⟨i7, u9, h⟩ := bsome h
    refine EL_p (.int .u8 (UInt8.toNat (i7))) (P_indexS Tryd.underlying9 rfl rfl u9) rfl ?_
    obtain ⟨k8, y9, h⟩ := bsome h
    refine EL_do .plain rfl (D_call (g := bA) (vs := [up1, .int .u8 (UInt8.toNat (i7))]) en198 (.cons rfl (.cons rfl .nil)) (wk198 t5 y9) fun d9 dB oB hs hr => ?_)
    have hfr := hfr.ext hs
    have t5 := t5.ext hs
    subst hr
    refine EL_p (.bool (!k8)) (P_not rfl) rfl ?_
    refine EL_nil (thn_n ?_)
    rcases csome h with ⟨y6, h⟩ | ⟨y6, h⟩
    ·refine E_ct y6 rfl ?_
     refine E_exit ?_
     refine thn_e ?_
     refine blk_miss rfl ?_
     refine thn_e ?_
     refine blk_hit ?_
     obtain rfl := sinj h
     exact hQ _ _ ⟨d9, hfr, l5⟩
    ·refine E_cf y6 rfl ?_
     exact E_skip (thn_n (n9 () _ _ ⟨d9, hfr, l5, m7, t5⟩ h))
   ·rintro _ iB tB ⟨iA, hfr, g8, n8, r8⟩ h
    refine E_region (EL_mv g8 rfl ?_)
    refine EL_mv g8 rfl ?_
    refine EL_p (.int .i64 ((o0).b.length : Int)) (P_lenS Tryd.underlying9 rfl) rfl ?_
    refine EL_in (.int .i64 ((w64 (((o0).b.length : Int) - (1 : Int))))) rfl rfl rfl rfl ?_
    obtain ⟨i6, z9, h⟩ := bsome h
    refine EL_p (Str.v (⟨i6⟩ : Str)) (P_sliceS Tryd.underlying9 rfl rfl rfl z9) rfl ?_
    refine EL_at (Str.v (⟨i6⟩ : Str)) rfl rfl ?_
    exact EL_nil (blk_n (thn_n (k9 ((⟨i6⟩ : Str)) _ _ ⟨iA, hfr, rfl, n8, r8⟩ h)))
 ·clear hx
  obtain ⟨vB, hfr, v8⟩ := hR
  refine E_seq (E_region (EL_mv v8 rfl ?_))
  refine EL_at (Str.v (u3)) rfl rfl ?_
  refine EL_nil (thn_n (E_ret ?_))
  obtain rfl := sinj h
  exact end1 rfl rfl (show _ = Str.v (u3) from rfl) ⟨_, hfr, rfl⟩
def f51 (x0 : TieHarness) : Option (Int) :=
 jn (σ := Unit) (fun _ =>
  some ((0 : Int))
  ) fun y6 =>
 (f98 ((1 : Int)) ((24 : Int)) (([(x0).Hooks] : List Int))).bind fun i6 =>
 bif (!i6) then
  some ((2 : Int))
 else
  bif (decide ((((x0).Warps).length : Int) > (96 : Int))) then
   some ((5 : Int))
  else
   bif ((((x0).Warps).length : Int) == (0 : Int)) then
    some ((7 : Int))
   else
    (f98 ((0 : Int)) ((w64 ((x0).Hooks - (1 : Int)))) ((x0).Warps)).bind fun x6 =>
    bif (!x6) then
     some ((2 : Int))
    else
     y6 ()
theorem en51 : Enters Tryd.prog 51 := enters_of Tryd.func51 (by kernel_rfl) rfl
theorem wk51 {gI : Gh} {wI : World} {x0 : TieHarness} {up0 : Value} (rp0 : RV gI.m wI x0 up0) {r : Int} (h : f51 x0 = some r) : Fn Tryd.prog 51 #[up0] gI wI (fun _ _ v => v = .int .i64 (r)) := by
 unfold f51 at h
 refine fn_of_E Tryd.func51 rfl (Nat.le_of_ble_eq_true rfl) fun g0 hm hfr => ?_
 have rp0 : RV g0.m wI x0 up0 := hm ▸ rp0
 show E _ 27 none _ _ _ _ _
 refine E_seq (E_region (EL_do .plain rfl (D_box (g := g0) rfl rp0 fun g1 w1 p1 hs q1 => ?_)))
 have hfr := hfr.ext hs
 refine EL_at (.int .i64 (0)) rfl rfl ?_
 refine EL_nil (thn_n (E_joinC h (fun (s : Unit) e w => ∃ (g : Gh) , Fr gI wI g w) (fun X21 y6 i7 h => ?_) ?_))
 ·refine E_block ?_
  refine E_seq (E_region (EL_p (fPtr p1 0) (P_fieldAddr at_52_0 rfl (PT.ptr q1)) rfl ?_))
  have k8 := PT_field (part_TieHarness_0).1 q1
  refine EL_do .plain rfl (D_load (g := g1) Tryd.isAgg3 Tryd.sizeOf3 rfl k8 fun yA l8 => ?_)
  obtain rfl := RV_int.1 l8
  refine EL_do .plain rfl (D_buildSlice (g := g1) 3006 (xs := ([(x0).Hooks] : List Int)) (vs := [.int .i64 ((x0).Hooks)]) Tryd.underlying34 Tryd.sizeOf3 Tryd.zeroValue3 rfl rfl (.cons rfl .nil) (RVs.cons (RV_int.2 rfl) RVs.nil) rfl rfl fun m8 aB n8 hs o24 r8 hxt hfl => ?_)
  have hfr := hfr.stp hs
  have q1 := q1.stp hs
  obtain ⟨i6, m7, h⟩ := bsome h
  refine EL_do .plain rfl (D_call (g := m8) (vs := [.int .i64 (1), .int .i64 (24), n8]) en98 (.cons rfl (.cons rfl (.cons rfl .nil))) (wk98 r8 m7) fun o0 bA dB hs hr => ?_)
  have hfr := hfr.ext hs
  have q1 := q1.ext hs
  subst hr
  refine EL_p (.bool (!i6)) (P_not rfl) rfl ?_
  refine EL_at (.bool (!i6)) rfl rfl ?_
  refine EL_nil (thn_n ?_)
  rcases csome h with ⟨u3, h⟩ | ⟨u3, h⟩
  ·refine E_ct u3 rfl ?_
   refine E_seq (E_region (EL_at (.int .i64 (2)) rfl rfl ?_))
   refine EL_nil (thn_n (E_ret (blk_r ?_)))
   refine thn_r ?_
   obtain rfl := sinj h
   exact end1 rfl rfl (show _ = .int .i64 (2) from rfl) ⟨_, hfr, rfl⟩
  ·refine E_cf u3 rfl ?_
   refine E_seq (E_region (EL_p (fPtr p1 1) (P_fieldAddr at_52_1 rfl (PT.ptr q1)) rfl ?_))
   have v8 := PT_field (part_TieHarness_1).1 q1
   refine EL_do .plain rfl (D_load (g := o0) Tryd.isAgg34 Tryd.sizeOf34 rfl v8 fun iB x8 => ?_)
   refine EL_p (.int .i64 (((x0).Warps).length : Int)) (P_len Tryd.underlying34 rfl x8) rfl ?_
   refine EL_p (.bool ((decide ((((x0).Warps).length : Int) > (96 : Int))))) (P_int rfl rfl rfl) rfl ?_
   refine EL_p (.bool ((decide ((((x0).Warps).length : Int) > (96 : Int))))) (P_assign rfl) rfl ?_
   refine EL_nil (thn_n ?_)
   rcases csome h with ⟨l5, h⟩ | ⟨l5, h⟩
   ·refine E_ct l5 rfl ?_
    refine E_seq (E_region (EL_at (.int .i64 (5)) rfl rfl ?_))
    refine EL_nil (thn_n (E_ret (blk_r ?_)))
    refine thn_r ?_
    obtain rfl := sinj h
    exact end1 rfl rfl (show _ = .int .i64 (5) from rfl) ⟨_, hfr, rfl⟩
   ·refine E_cf l5 rfl ?_
    refine E_seq (E_region (EL_p (fPtr p1 1) (P_fieldAddr at_52_1 rfl (PT.ptr q1)) rfl ?_))
    have a9 := PT_field (part_TieHarness_1).1 q1
    refine EL_do .plain rfl (D_load (g := o0) Tryd.isAgg34 Tryd.sizeOf34 rfl a9 fun lB d9 => ?_)
    refine EL_p (.int .i64 (((x0).Warps).length : Int)) (P_len Tryd.underlying34 rfl d9) rfl ?_
    refine EL_in (.bool (((((x0).Warps).length : Int) == (0 : Int)))) rfl rfl rfl rfl ?_
    refine EL_at (.bool (((((x0).Warps).length : Int) == (0 : Int)))) rfl rfl ?_
    refine EL_nil (thn_n ?_)
    rcases csome h with ⟨t5, h⟩ | ⟨t5, h⟩
    ·refine E_ct t5 rfl ?_
     refine E_seq (E_region (EL_at (.int .i64 (7)) rfl rfl ?_))
     refine EL_nil (thn_n (E_ret (blk_r ?_)))
     refine thn_r ?_
     obtain rfl := sinj h
     exact end1 rfl rfl (show _ = .int .i64 (7) from rfl) ⟨_, hfr, rfl⟩
    ·refine E_cf t5 rfl ?_
     refine E_seq (E_region (EL_p (fPtr p1 0) (P_fieldAddr at_52_0 rfl (PT.ptr q1)) rfl ?_))
     have k9 := PT_field (part_TieHarness_0).1 q1
     refine EL_do .plain rfl (D_load (g := o0) Tryd.isAgg3 Tryd.sizeOf3 rfl k9 fun mB l9 => ?_)
     obtain rfl := RV_int.1 l9
     refine EL_in (.int .i64 ((w64 ((x0).Hooks - (1 : Int))))) rfl rfl rfl rfl ?_
     refine EL_p (fPtr p1 1) (P_fieldAddr at_52_1 rfl (PT.ptr q1)) rfl ?_
     have n9 := PT_field (part_TieHarness_1).1 q1
     refine EL_do .plain rfl (D_load (g := o0) Tryd.isAgg34 Tryd.sizeOf34 rfl n9 fun u9 y9 => ?_)
     obtain ⟨x6, g8, h⟩ := bsome h
     refine EL_do .plain rfl (D_call (g := o0) (vs := [.int .i64 (0), .int .i64 ((w64 ((x0).Hooks - (1 : Int)))), u9]) en98 (.cons rfl (.cons rfl (.cons rfl .nil))) (wk98 y9 g8) fun z9 iA nB hs hr => ?_)
     have hfr := hfr.ext hs
     subst hr
     refine EL_p (.bool (!x6)) (P_not rfl) rfl ?_
     refine EL_at (.bool (!x6)) rfl rfl ?_
     refine EL_nil (thn_n ?_)
     rcases csome h with ⟨x5, h⟩ | ⟨x5, h⟩
     ·refine E_ct x5 rfl ?_
      refine E_seq (E_region (EL_at (.int .i64 (2)) rfl rfl ?_))
      refine EL_nil (thn_n (E_ret (blk_r ?_)))
      refine thn_r ?_
      obtain rfl := sinj h
      exact end1 rfl rfl (show _ = .int .i64 (2) from rfl) ⟨_, hfr, rfl⟩
     ·refine E_cf x5 rfl ?_
      exact E_skip (blk_n (thn_n (i7 () _ _ ⟨z9, hfr⟩ h)))
 ·rintro _ rA oB ⟨tB, hfr⟩ h
  refine E_seq (E_region (EL_at (.int .i64 (0)) rfl rfl ?_))
  refine EL_nil (thn_n (E_ret ?_))
  obtain rfl := sinj h
  exact end1 rfl rfl (show _ = .int .i64 (0) from rfl) ⟨_, hfr, rfl⟩
def f64 (x0 : TieHarness) (x1 : List Int) : Option (Int) :=
 jn (σ := Unit) (fun _ =>
  jn (σ := Unit) (fun _ =>
   some ((0 : Int))
   ) fun m7 =>
  bif (((x1).length : Int) != (((x0).Warps).length : Int)) then
   some ((4 : Int))
  else
   (f112 ((-1 : Int)) ((w64 ((((x0).Warps).length : Int) - (1 : Int)))) x1).bind fun x5 =>
   bif (!x5) then
    some ((2 : Int))
   else
    m7 ()
  ) fun k6 =>
 (f51 x0).bind fun y9 =>
 bif (y9 != (0 : Int)) then
  some (y9)
 else
  k6 ()
theorem en64 : Enters Tryd.prog 64 := enters_of Tryd.func64 (by kernel_rfl) rfl
theorem wk64 {gI : Gh} {wI : World} {x0 : TieHarness} {x1 : List Int} {up0 : Value} (rp0 : RV gI.m wI x0 up0) {up1 : Value} (rp1 : RV gI.m wI x1 up1) {r : Int} (h : f64 x0 x1 = some r) : Fn Tryd.prog 64 #[up0, up1] gI wI (fun _ _ v => v = .int .i64 (r)) := by
 unfold f64 at h
 refine fn_of_E Tryd.func64 rfl (Nat.le_of_ble_eq_true rfl) fun g0 hm hfr => ?_
 have rp0 : RV g0.m wI x0 up0 := hm ▸ rp0
 have rp1 : RV g0.m wI x1 up1 := hm ▸ rp1
 show E _ 26 none _ _ _ _ _
 refine E_seq (E_region (EL_do .plain rfl (D_box (g := g0) rfl rp0 fun g1 w1 p1 hs q1 => ?_)))
 have hfr := hfr.ext hs
 have rp1 := rp1.ext hs
 refine EL_at (.int .i64 (0)) rfl rfl ?_
 refine EL_nil (thn_n (E_joinC h (fun (s : Unit) e w => ∃ (g : Gh) , Fr gI wI g w ∧ e 1 = up1 ∧ RV g.m w (x1 : List Int) up1 ∧ e 2 = p1 ∧ PT g.m w (x0 : TieHarness) p1) (fun X6 k6 hk6 h => ?_) ?_))
 ·refine E_seq (E_region (EL_do .plain rfl (D_load (g := g1) Tryd.isAgg52 Tryd.sizeOf52 rfl q1 fun v7 r7 => ?_)))
  obtain ⟨y9, m8, h⟩ := bsome h
  refine EL_do .plain rfl (D_call (g := g1) (vs := [v7]) en51 (.cons rfl .nil) (wk51 r7 m8) fun g8 w8_ v8 hs hr => ?_)
  have hfr := hfr.ext hs
  have rp1 := rp1.ext hs
  have q1 := q1.ext hs
  subst hr
  refine EL_at (.int .i64 (y9)) rfl rfl ?_
  refine EL_nil (thn_n (E_seq (E_region (EL_mw (.int .i64 (y9)) rfl rfl ?_))))
  refine EL_in (.bool ((y9 != (0 : Int)))) rfl rfl rfl rfl ?_
  refine EL_nil (thn_n ?_)
  rcases csome h with ⟨u3, h⟩ | ⟨u3, h⟩
  ·refine E_ct u3 rfl ?_
   refine E_seq (E_region (EL_mw (.int .i64 (y9)) rfl rfl ?_))
   refine EL_at (.int .i64 (y9)) rfl rfl ?_
   refine EL_nil (thn_n (E_ret (thn_r ?_)))
   obtain rfl := sinj h
   exact end1 rfl rfl (show _ = .int .i64 (y9) from rfl) ⟨_, hfr, rfl⟩
  ·refine E_cf u3 rfl ?_
   exact E_skip (thn_n (hk6 () _ _ ⟨g8, hfr, rfl, rp1, rfl, q1⟩ h))
 ·rintro _ k9 u9 ⟨i7, hfr, i6, x6, y6, o0⟩ h
  refine E_joinC h (fun (s : Unit) e w => ∃ (g : Gh) , Fr gI wI g w) (fun X20 m7 k8 h => ?_) ?_
  ·refine E_block ?_
   refine E_seq (E_region (EL_mv i6 rfl ?_))
   refine EL_p (.int .i64 ((x1).length : Int)) (P_len Tryd.underlying34 rfl x6) rfl ?_
   refine EL_p (fPtr p1 1) (P_fieldAddr at_52_1 y6 (PT.ptr o0)) rfl ?_
   have n8 := PT_field (part_TieHarness_1).1 o0
   refine EL_do .plain rfl (D_load (g := i7) Tryd.isAgg34 Tryd.sizeOf34 rfl n8 fun z9 r8 => ?_)
   refine EL_p (.int .i64 (((x0).Warps).length : Int)) (P_len Tryd.underlying34 rfl r8) rfl ?_
   refine EL_in (.bool ((((x1).length : Int) != (((x0).Warps).length : Int)))) rfl rfl rfl rfl ?_
   refine EL_at (.bool ((((x1).length : Int) != (((x0).Warps).length : Int)))) rfl rfl ?_
   refine EL_nil (thn_n ?_)
   rcases csome h with ⟨l5, h⟩ | ⟨l5, h⟩
   ·refine E_ct l5 rfl ?_
    refine E_seq (E_region (EL_at (.int .i64 (4)) rfl rfl ?_))
    refine EL_nil (thn_n (E_ret (blk_r ?_)))
    refine thn_r ?_
    obtain rfl := sinj h
    exact end1 rfl rfl (show _ = .int .i64 (4) from rfl) ⟨_, hfr, rfl⟩
   ·refine E_cf l5 rfl ?_
    refine E_seq (E_region (EL_p (fPtr p1 1) (P_fieldAddr at_52_1 y6 (PT.ptr o0)) rfl ?_))
    have x8 := PT_field (part_TieHarness_1).1 o0
    refine EL_do .plain rfl (D_load (g := i7) Tryd.isAgg34 Tryd.sizeOf34 rfl x8 fun bA a9 => ?_)
    refine EL_p (.int .i64 (((x0).Warps).length : Int)) (P_len Tryd.underlying34 rfl a9) rfl ?_
    refine EL_p (.int .i64 ((w64 ((((x0).Warps).length : Int) - (1 : Int))))) (P_int rfl rfl rfl) rfl ?_
    refine EL_mv i6 rfl ?_
    obtain ⟨x5, l8, h⟩ := bsome h
    refine EL_do .plain rfl (D_call (g := i7) (vs := [.int .i64 (-1), .int .i64 ((w64 ((((x0).Warps).length : Int) - (1 : Int)))), up1]) en112 (.cons rfl (.cons rfl (.cons rfl .nil))) (wk112 x6 l8) fun d9 l9 iA hs hr => ?_)
    have hfr := hfr.ext hs
    subst hr
    refine EL_p (.bool (!x5)) (P_not rfl) rfl ?_
    refine EL_at (.bool (!x5)) rfl rfl ?_
    refine EL_nil (thn_n ?_)
    rcases csome h with ⟨t5, h⟩ | ⟨t5, h⟩
    ·refine E_ct t5 rfl ?_
     refine E_seq (E_region (EL_at (.int .i64 (2)) rfl rfl ?_))
     refine EL_nil (thn_n (E_ret (blk_r ?_)))
     refine thn_r ?_
     obtain rfl := sinj h
     exact end1 rfl rfl (show _ = .int .i64 (2) from rfl) ⟨_, hfr, rfl⟩
    ·refine E_cf t5 rfl ?_
     exact E_skip (blk_n (thn_n (k8 () _ _ ⟨d9, hfr⟩ h)))
  ·rintro _ n9 w29 ⟨rA, hfr⟩ h
   refine E_seq (E_region (EL_at (.int .i64 (0)) rfl rfl ?_))
   refine EL_nil (thn_n (E_ret ?_))
   obtain rfl := sinj h
   exact end1 rfl rfl (show _ = .int .i64 (0) from rfl) ⟨_, hfr, rfl⟩
theorem v114_0 {iO : Nat} {gI : Gh} {wI : World} {x0 : List Int} {up0 : Value} (rp0 : RV gI.m wI x0 up0) {r : List Int} (h : f114 x0 = some r) : FnG Tryd.prog 114 #[up0] gI wI (fun g w v => OM iO g w 3 r v) := by
 unfold f114 at h
 refine fnG_of_E Tryd.func114 rfl (Nat.le_of_ble_eq_true rfl) fun g0 hm hfr => ?_
 have rp0 : RV g0.m wI x0 up0 := hm ▸ rp0
 show E _ 8 none _ _ _ _ _
 refine E_seq (E_region (EL_at (.slice none 0 0) rfl rfl (EL_nil (thn_n ?_))))
 refine E_seq (E_seq (E_region (EL_mw up0 rfl rfl ?_)))
 obtain ⟨a, c, hv, hc, hrow⟩ := RV_list rp0
 refine EL_p (.bool a.isNone) (P_slnil Tryd.underlying34 (show ev _ _ = _ from hv)) rfl (EL_nil (thn_n ?_))
 cases a with
 | none =>
  have hx : x0 = [] := by
   cases x0 with
   | nil => rfl
   | cons y ys => obtain ⟨b, off, hb, _⟩ := hrow (by simp); cases hb
  subst hx
  have hr : r = [] := by unfold apnd at h; split at h <;> simp at h; exact h
  subst hr
  refine E_cond_true rfl (E_seq (E_region ?_))
  refine EL_at (.slice none 0 0) rfl rfl (EL_nil (thn_n ?_))
  obtain ⟨gh, hxh, homh⟩ := OM.handn (i := iO) (t := 3) (α := Int) hfr; exact E_ret (thn_r (end1 rfl rfl (show _ = .slice none 0 0 from rfl) ⟨gh, hxh, homh⟩))
 | some a =>
  refine E_cond_false rfl (E_skip (thn_n ?_))
  refine E_seq (E_region (EL_do .plain rfl (D_buildSlice (g := g0) 1 (xs := ([] : List Int)) (vs := []) Tryd.underlying34 Tryd.sizeOf3 Tryd.zeroValue3 rfl rfl .nil RVs.nil rfl rfl fun g1 w1 v1 hs o1 r1 hxt hfl => ?_)))
  have hfr := hfr.stp hs
  have rp0 := rp0.stp hs
  refine EL_mw up0 rfl rfl ?_
  refine EL_do .plain rfl (D_append (g := g1) (i := 1) Tryd.underlying34 info_3 rfl rfl o1 r1 rfl rp0 h fun g2 w2 v2 hs o2 r2 _ => ?_)
  have hfr := hfr.stp hs
  refine EL_at v2 rfl rfl (EL_nil (thn_n ?_))
  obtain ⟨gh, hxh, homh⟩ := OM.hand (i := iO) plain_int hfr o2 r2; exact E_ret (end1 rfl rfl (show _ = v2 from rfl) ⟨gh, hxh, homh⟩)
def f74 (x0 : Int) (x1 : Int) (x2 : List Int) : Option (Bool) :=
 (f91 x2 ((fun a0 => f127 a0 x0 x1))).bind fun y4 =>
 some ((!y4))
theorem en74 : Enters Tryd.prog 74 := enters_of Tryd.func74 (by kernel_rfl) rfl
theorem wk74 {gI : Gh} {wI : World} {x0 : Int} {x1 : Int} {x2 : List Int} {up2 : Value} (rp2 : RV gI.m wI x2 up2) {r : Bool} (h : f74 x0 x1 x2 = some r) : Fn Tryd.prog 74 #[.int .i64 (x0), .int .i64 (x1), up2] gI wI (fun _ _ v => v = .bool (r)) := by
 unfold f74 at h
 refine fn_of_E Tryd.func74 rfl (Nat.le_of_ble_eq_true rfl) fun g0 hm hfr => ?_
 have rp2 : RV g0.m wI x2 up2 := hm ▸ rp2
 show E _ 11 none _ _ _ _ _
 refine E_seq (E_region (EL_do .plain rfl (D_box (g := g0) rfl (RV_int.2 rfl) fun g1 w1 p1 hs q1 => ?_)))
 have hfr := hfr.ext hs
 have rp2 := rp2.ext hs
 refine EL_do .plain rfl (D_box (g := g1) rfl (RV_int.2 rfl) fun g2 w2 p2 hs q2 => ?_)
 have hfr := hfr.ext hs
 have rp2 := rp2.ext hs
 have q1 := q1.ext hs
 refine EL_at (.bool false) rfl rfl ?_
 refine EL_nil (thn_n (E_seq (E_region (EL_mw up2 rfl rfl ?_))))
 refine EL_p ((.func (.func 127) #[] #[p1, p2])) (P_makeFunc (capf_0_2 (show ev _ _ = p1 from rfl) (show ev _ _ = p2 from rfl))) rfl ?_
 obtain ⟨y4, o0, h⟩ := bsome h
 refine EL_do .plain rfl (D_call (g := g2) (vs := [up2, (.func (.func 127) #[] #[p1, p2])]) en91 (.cons rfl (.cons rfl .nil)) (wk91 rp2 ⟨127, #[], #[p1, p2], rfl, en127, fun g' w' hch a0 b0 r hu0 hr => by obtain rfl := RV_int.1 hu0; exact Fn.mono (wk127  (q1.ch hch) (q2.ch hch) hr) fun _ _ _ h => RV_bool.2 h⟩ o0) fun g3 w3_ v3 hs hr => ?_)
 have hfr := hfr.ext hs
 subst hr
 refine EL_p (.bool (!y4)) (P_not rfl) rfl ?_
 refine EL_at (.bool (!y4)) rfl rfl ?_
 refine EL_nil (thn_n (E_ret ?_))
 obtain rfl := sinj h
 exact end1 rfl rfl (show _ = .bool (!y4) from rfl) ⟨_, hfr, rfl⟩
def f113 (x0 : TieTieHarness) : Option ((List (Int × Int))) :=
 Option.bind (α := (List (Int × Int))) (
  (f115 (((x0).TieHarness).Warps)).bind fun k8 =>
  (k8 ((List (Int × Int))) (fun m7 (l5, t5) =>
   some (true, ((mset m7 t5 l5)))
   ) (([] : List (Int × Int)))).bind fun g8 =>
  some (g8)
  ) fun i6 =>
 some (i6)
theorem en113 : Enters Tryd.prog 113 := enters_of Tryd.func113 (by kernel_rfl) rfl
theorem wk113 {iO : Nat} {gI : Gh} {wI : World} {x0 : TieTieHarness} {up0 : Value} (rp0 : RV gI.m wI x0 up0) {r : (List (Int × Int))} (h : f113 x0 = some r) : FnG Tryd.prog 113 #[up0] gI wI (fun g w v => MP (Value.int .i64) iO g w r v) := by
 unfold f113 at h
 refine fnGD_of_E Tryd.func113 rfl (Nat.le_of_ble_eq_true rfl) fun g0 hm hfr => ?_
 have hmk : MkF g0 wI [] := MkF.start
 have rp0 : RV g0.m wI x0 up0 := hm ▸ rp0
 show E _ 17 none _ _ _ _ _
 refine E_seq (E_region (EL_do .plain rfl (D_box (g := g0) rfl rp0 fun g1 w1 p1 hs q1 => ?_)))
 have hfr := hfr.ext hs
 have hmk := hmk.ext hs
 refine EL_at (.map none) rfl rfl ?_
 refine EL_nil (thn_n (E_seq (E_region (EL_do .plain rfl (D_makeMap (g := g1) (Value.int .i64) Int 8006 fun g2 w2 v2 hs m2 => ?_)))))
 have hfr := hfr.stp hs
 have hmk := hmk.stp hs
 have q1 := q1.stp hs
 refine EL_do .plain rfl (D_allocOc (g := g2) 2003 (⟨.map none, rfl⟩ : Fv) Tryd.zeroValue168 (fun _ _ => fvm_rep) fun g3 w3 p3 hs b3 cb => ?_)
 clear cb
 have hfr := hfr.stp hs
 have hmk := hmk.stp hs
 have q1 := q1.stp hs
 have m2 := m2.stp hs rfl
 have on4 := mp_one m2
 refine EL_do .plain rfl (D_storeOc (g := g3) (v := v2) (a' := (⟨v2, on4⟩ : Fv)) Tryd.sizeOf168 rfl b3 rfl (RV_fv.2 rfl) fun g4 w4 hs b4 cb => ?_)
 clear cb
 have hfr := hfr.stp hs
 have hmk := hmk.stp hs
 have q1 := q1.stp hs
 have m2 := m2.stp hs rfl
 refine EL_nil (thn_n ?_)
 obtain ⟨i6, hx, h⟩ := bsome h
 refine E_joinD (fun e ds w => ∃ (g : Gh) , Fr gI wI g w ∧ MkF g w ds ∧ e 3 = p3 ∧ BM (Value.int .i64) 2003 8006 g w 168 (i6 : List (Int × Int)) p3) (fun Q' hQ => ?_) (fun mC vB uC hR => ?_)
 ·replace h := hx
  clear hx
  refine E_seq (E_region (EL_p (fPtr p1 0) (P_fieldAddr at_129_0 rfl (PT.ptr q1)) rfl ?_))
  have u9 := PT_field (part_TieTieHarness_0).1 q1
  refine EL_p (fPtr (fPtr p1 0) 1) (P_fieldAddr at_52_1 rfl (PT.ptr u9)) rfl ?_
  have aB := PT_field (part_TieHarness_1).1 u9
  refine EL_do .plain rfl (D_load (g := g4) Tryd.isAgg34 Tryd.sizeOf34 rfl aB fun dB iB => ?_)
  obtain ⟨k8, yA, h⟩ := bsome h
  refine EL_do .plain rfl (D_call (g := g4) (vs := [dB]) en115 (.cons rfl .nil) (wk115 iB yA) fun vC qC lB hs hr => ?_)
  have hfr := hfr.ext hs
  have hmk := hmk.ext hs
  have b4 := b4.ext hs
  have m2 := m2.ext hs
  have y9 := hr
  refine EL_nil (thn_n (E_block ?_))
  have hB0 := hfr.size
  have hmk0 := hmk
  obtain ⟨g8, hφ, h⟩ := bsome h
  refine E_rangeFunc (σ := ((List (Int × Int)))) (s0 := (([] : List (Int × Int)))) 10 rfl (fun _ => 0) [] (fun (s : (List (Int × Int))) (g : Gh) (w : World) => Fr gI wI g w ∧ MkF g w [] ∧ BM (Value.int .i64) 2003 8006 g w 168 (s : List (Int × Int)) p3 ∧ ItV Tryd.prog (RA2 (α := Int) (β := Int)) k8 lB g.m w) rfl y9 hφ (fun _ _ _ _ => rfl) rfl ra2_size rfl (fun _ _ _ _ _ hx hR => by obtain ⟨hfr, hmk, z2, z3⟩ := hR; exact ⟨hfr.ist hx hB0, hmk.ist hx, z2.ist hx, z3.ist hx⟩) (fun _ _ _ _ _ hx hR => by obtain ⟨hfr, hmk, z2, z3⟩ := hR; exact ⟨hfr.stp hx, hmk.stp hx, z2.stp hx rfl, z3.stp hx⟩) ⟨hfr, hmk, ⟨_, b4, m2⟩, y9⟩ (fun _ h => by cases h) ?_ ?_
  ·intro rC yB s x b s2 l8 w29 vs hsz h hR hrec_0 m8 hrd
   obtain ⟨m7, hse⟩ : ∃ y, y = s := ⟨s, rfl⟩
   subst hse
   obtain ⟨hfr, hmk, ⟨v8, u3, x6⟩, o0⟩ := hR
   obtain ⟨l5, t5⟩ := x
   obtain ⟨x8, a9, rfl, n8, r8⟩ := ra2_get hrd
   obtain rfl : x8 = .int .i64 (l5) := RV_int.1 n8
   obtain rfl : a9 = .int .i64 (t5) := RV_int.1 r8
   have x5 := RFr.refl l8 w29
   refine E_seq (E_region (EL_at (.int .i64 (l5)) rfl rfl ?_))
   refine EL_nil (thn_n (E_region (EL_at (.int .i64 (t5)) rfl rfl ?_)))
   refine EL_nil (thn_n ?_)
   obtain ⟨mB, hbr, hs, hrN⟩ := begin_round hrec_0 m8
   refine ⟨mB, hbr, ?_⟩
   have hfr := hfr.stp hs
   have hmk := hmk.stp hs
   have x5 := x5.stp hs
   have u3 := u3.stp hs rfl
   have x6 := x6.stp hs rfl
   have o0 := o0.stp hs
   have hrec_0 := hrN
   clear hbr hs hrN
   refine E_block ?_
   refine E_region (EL_do .plain rfl (D_loadO (α := Fv) (g := l8) Tryd.isAgg168 Tryd.sizeOf168 rfl u3 fun z9 bA => ?_))
   have e31 : z9 = v8.v := RV_fv.1 bA
   clear bA
   subst z9
   refine EL_mw (.int .i64 (t5)) rfl rfl ?_
   refine EL_mw (.int .i64 (l5)) rfl rfl ?_
   refine EL_do .plain rfl (D_mapUpdate (g := l8) Tryd.underlying168 key_3 rfl x6 rfl rfl (RV_int.2 rfl) fun aD bD hs m32 => ?_)
   have hfr := hfr.stp hs
   have hmk := hmk.stp hs
   have x5 := x5.stp hs
   have hrec_0 := hrec_0.stp hs rfl
   have u3 := u3.stp hs rfl
   have o0 := o0.stp hs
   refine EL_nil (blk_n ?_)
   obtain ⟨rfl, rfl⟩ := pairs2 h
   exact ⟨_, x5, ⟨hfr, hmk, ⟨_, u3, m32⟩, o0⟩, hrec_0, rfl, rfl⟩
  ·intro nB cD ds34 hsz hR hds
   obtain ⟨hfr, hmk, ⟨zB, d9, k9⟩, oB⟩ := hR
   obtain ⟨D, hdse, hD, hDb⟩ := hds.1 rfl
   subst hdse
   replace hmk := MkF.push hmk0 hmk hD hDb
   clear hD hDb hds
   revert hmk
   generalize ({ target := .collected D, args := #[] } :: [] : List Deferred) = cC
   intro hmk
   refine ⟨fun _ => ?_, fun k c hs _ => absurd hs (Nat.succ_ne_zero k).symm⟩
   refine blk_n ?_
   obtain rfl := sinj h
   exact hQ _ _ _ ⟨nB, hfr, hmk, rfl, ⟨_, d9, k9⟩⟩
 ·clear hx
  obtain ⟨tB, hfr, hmk, l9, ⟨y6, n9, i7⟩⟩ := hR
  refine E_seq (E_region (EL_do .plain rfl (D_loadO (α := Fv) (g := tB) Tryd.isAgg168 Tryd.sizeOf168 l9 n9 fun iA rA => ?_)))
  have e36 : iA = y6.v := RV_fv.1 rA
  clear rA
  subst iA
  refine EL_at (y6.v) rfl rfl ?_
  refine EL_nil (thn_n (E_ret (endM (.inr rfl) hmk fun eD gD hs => ?_)))
  have hfr := hfr.stp hs
  have i7 := i7.stp hs rfl
  obtain rfl := sinj h
  obtain ⟨gh, hxh, hmh, mph⟩ := MP.handm (i := iO) hfr i7
  exact end1 rfl rfl (show _ = y6.v from rfl) ⟨gh, hxh, mph⟩
theorem u195 {iO : Nat} {gI : Gh} {wI : World} {x1 : It Int} {up1 : Value} (rp1 : ItV Tryd.prog (RA1 (α := Int)) x1 up1 gI.m wI) {r : (List Int)} (h : f195 x1 = some r) : FnG Tryd.prog 195 #[.slice none 0 0, up1] gI wI (fun g w v => OS iO g w 3 r v ∧ RV g.m w r v) := by
 unfold f195 at h
 refine fnGD_of_E Tryd.func195 rfl (Nat.le_of_ble_eq_true rfl) fun g0 hm hfr => ?_
 have hmk : MkF g0 wI [] := MkF.start
 have rp1 : ItV Tryd.prog (RA1 (α := Int)) x1 up1 g0.m wI := hm ▸ rp1
 show E _ 13 none _ _ _ _ _
 refine E_seq (E_region (EL_do .plain rfl (D_boxOc (g := g0) (a := (([] : List Int) : List Int)) 2002 rfl RV_nil fun g1 w1 p1 hs b1 cb => ?_)))
 have hfr := hfr.stp hs
 have hmk := hmk.stp hs
 have rp1 := rp1.stp hs
 have x8 : OSF 2002 60200 0 g1 w1 3 34 (([] : List Int) : List Int) p1 := cb.osfr rfl (OS.nil : OS 60200 g1 w1 3 (([] : List Int) : List Int) (.slice none 0 0))
 clear cb
 refine EL_at (.slice none 0 0) rfl rfl ?_
 refine EL_nil (thn_n ?_)
 obtain ⟨x5, hx, h⟩ := bsome h
 refine E_joinD (fun e ds w => ∃ (g : Gh) , Fr gI wI g w ∧ MkF g w ds ∧ e 2 = p1 ∧ OB 2002 g w 34 (x5 : List Int) p1 ∧ OSF 2002 60200 0 g w 3 34 (x5) p1) (fun Q' hQ => ?_) (fun oB aB vB hR => ?_)
 ·replace h := hx
  clear hx
  refine E_seq (E_region (EL_mw up1 rfl rfl ?_))
  refine EL_nil (thn_n (E_block ?_))
  have hB0 := hfr.size
  have hmk0 := hmk
  obtain ⟨dB, hφ, h⟩ := bsome h
  refine E_rangeFunc (σ := ((List Int))) (s0 := ((([] : List Int) : List Int))) 10 rfl (fun _ => 0) [] (fun (s : (List Int)) (g : Gh) (w : World) => Fr gI wI g w ∧ MkF g w [] ∧ OB 2002 g w 34 (s : List Int) p1 ∧ OSF 2002 60200 0 g w 3 34 (s) p1 ∧ ItV Tryd.prog (RA1 (α := Int)) x1 up1 g.m w) rfl rp1 hφ (fun _ _ _ _ => rfl) rfl ra1_size rfl (fun _ _ _ _ _ hx hR => by obtain ⟨hfr, hmk, z2, z3, z4⟩ := hR; exact ⟨hfr.ist hx hB0, hmk.ist hx, z2.ist hx, z3.ist hx, z4.ist hx⟩) (fun _ _ _ _ _ hx hR => by obtain ⟨hfr, hmk, z2, z3, z4⟩ := hR; exact ⟨hfr.stp hx, hmk.stp hx, z2.stp hx rfl, z3.stp hx rfl, z4.stp hx⟩) ⟨hfr, hmk, b1, x8, rp1⟩ (fun _ h => by cases h) ?_ ?_
  ·intro tB iB s x b s2 i6 d9 vs hsz h hR hrec_0 x6 hrd
   obtain ⟨lB, hse⟩ : ∃ y, y = s := ⟨s, rfl⟩
   subst hse
   obtain ⟨hfr, hmk, l5, u2_0_25, o0⟩ := hR
   obtain ⟨t5, hxe⟩ : ∃ y, y = x := ⟨x, rfl⟩
   subst hxe
   obtain ⟨g8, rfl, y6⟩ := ra1_get hrd
   obtain rfl : g8 = .int .i64 (t5) := RV_int.1 y6
   have u3 := RFr.refl i6 d9
   refine E_region (EL_at (.int .i64 (t5)) rfl rfl ?_)
   refine EL_nil (thn_n ?_)
   obtain ⟨k9, hbr, hs, hrN⟩ := begin_round hrec_0 x6
   refine ⟨k9, hbr, ?_⟩
   have hfr := hfr.stp hs
   have hmk := hmk.stp hs
   have u3 := u3.stp hs
   have u2_0_25 := u2_0_25.stp hs rfl
   have l5 := l5.stp hs rfl
   have o0 := o0.stp hs
   have hrec_0 := hrN
   clear hbr hs hrN
   refine E_block ?_
   refine E_region (EL_do .plain rfl (D_loadOS (g := i6) Tryd.isAgg34 Tryd.sizeOf34 rfl l5 u2_0_25 fun yB i7 o27 => ?_))
   refine EL_mw (.int .i64 (t5)) rfl rfl ?_
   refine EL_do .plain rfl (D_buildSlice (g := i6) 3010 (xs := ([t5] : List Int)) (vs := [.int .i64 (t5)]) Tryd.underlying34 Tryd.sizeOf3 Tryd.zeroValue3 rfl rfl (.cons rfl .nil) (RVs.cons (RV_int.2 rfl) RVs.nil) rfl rfl fun l9 zB cC hs o28 n9 hxt hfl => ?_)
   have hfr := hfr.stp hs
   have hmk := hmk.stp hs
   have u3 := u3.stp hs
   have hrec_0 := hrec_0.stp hs rfl
   have l5 := l5.stp hs rfl
   have o0 := o0.stp hs
   have i7 := i7.stp hs
   have o27 := o27.stp hs rfl
   obtain ⟨u9, a9, h⟩ := bsome h
   refine EL_do .plain rfl (D_append (g := l9) (i := 60200) Tryd.underlying34 info_3 rfl rfl o27 i7 rfl n9 a9 fun y9 w29 z9 hs o29 r8 _ => ?_)
   have hfr := hfr.stp hs
   have hmk := hmk.stp hs
   have u3 := u3.stp hs
   have hrec_0 := hrec_0.stp hs rfl
   have l5 := l5.stp hs rfl
   have o0 := o0.stp hs
   refine EL_do .plain rfl (D_storeOc (g := y9) (v := z9) Tryd.sizeOf34 rfl l5 rfl r8 fun bA iA hs b31 cb => ?_)
   have k8 : OSF 2002 60200 0 bA iA 3 34 (u9 : List Int) p1 := cb.osfr (rv_cells1 r8) (o29.stp hs rfl)
   clear cb
   have hfr := hfr.stp hs
   have hmk := hmk.stp hs
   have u3 := u3.stp hs
   have hrec_0 := hrec_0.stp hs rfl
   have o0 := o0.stp hs
   refine EL_nil (blk_n ?_)
   obtain ⟨rfl, rfl⟩ := pairs2 h
   exact ⟨_, u3, ⟨hfr, hmk, b31, k8, o0⟩, hrec_0, rfl, rfl⟩
  ·intro rA mC ds33 hsz hR hds
   obtain ⟨hfr, hmk, l8, u2_0_33, mB⟩ := hR
   obtain ⟨D, hdse, hD, hDb⟩ := hds.1 rfl
   subst hdse
   replace hmk := MkF.push hmk0 hmk hD hDb
   clear hD hDb hds
   revert hmk
   generalize ({ target := .collected D, args := #[] } :: [] : List Deferred) = nB
   intro hmk
   refine ⟨fun _ => ?_, fun k c hs _ => absurd hs (Nat.succ_ne_zero k).symm⟩
   refine blk_n ?_
   obtain rfl := sinj h
   exact hQ _ _ _ ⟨rA, hfr, hmk, rfl, l8, u2_0_33⟩
 ·clear hx
  obtain ⟨yA, hfr, hmk, m8, n8, u2_0_34⟩ := hR
  refine E_seq (E_region (EL_do .plain rfl (D_loadOS (g := yA) Tryd.isAgg34 Tryd.sizeOf34 m8 n8 u2_0_34 fun v8 m7 o35 => ?_)))
  refine EL_at v8 rfl rfl ?_
  refine EL_nil (thn_n (E_ret (endM (.inr rfl) hmk fun qC rC hs => ?_)))
  have hfr := hfr.stp hs
  have m7 := m7.stp hs
  have o35 := o35.stp hs rfl
  obtain rfl := sinj h
  obtain ⟨gh, hxh, homh, hrvh⟩ := OS.handn (i := iO) hfr o35 m7
  exact end1 rfl rfl (show _ = v8 from rfl) ⟨gh, hxh, homh, hrvh⟩
def f119 (x0 : List EyeThread) (x1 : EyeThread → EyeThread → Option Bool) : Option ((List Int)) :=
 (mks 8 (0 : Int) (((x0).length : Int))).bind fun y4 =>
 Option.bind (α := (List Int)) (
  (f166 x0).bind fun u9 =>
  (u9 ((List Int)) (fun iA (o0, v8) =>
   (idx iA o0).bind fun yH =>
   lp (σ := (List Int) × Int) (fun xD (n8, l5) =>
    jn (σ := Unit) (fun _ =>
     Option.bind (α := (List Int)) (
      (idx x0 l5).bind fun yD =>
      (x1 v8 yD).bind fun yB =>
      bif yB then
       (idx n8 o0).bind fun rA =>
       (idx n8 l5).bind fun y9 =>
       (idx n8 o0).bind fun zH =>
       some ((List.set n8 (Int.toNat o0) ((max64 rA (w64 (y9 + (1 : Int)))))))
      else
       some (n8)
      ) fun d9 =>
     xD (d9, (w64 (l5 + (1 : Int))))
     ) fun zD =>
    bif (decide (l5 < ((x0).length : Int))) then
     zD ()
    else
     some (true, (n8))
    ) big ((List.set iA (Int.toNat o0) ((1 : Int))), (w64 (o0 + (1 : Int))))
   ) (y4)).bind fun rC =>
  some (rC)
  ) fun yA =>
 some (yA)
theorem en119 : Enters Tryd.prog 119 := enters_of Tryd.func119 (by kernel_rfl) rfl
theorem wk119 {gI : Gh} {wI : World} {x0 : List EyeThread} {x1 : EyeThread → EyeThread → Option Bool} {up0 : Value} (rp0 : RV gI.m wI x0 up0) {up1 : Value} (rp1 : FnV2 Tryd.prog x1 up1 gI wI) {r : (List Int)} (h : f119 x0 x1 = some r) : Fn Tryd.prog 119 #[up0, up1] gI wI (fun m w v => RV m w (r) v) := by
 unfold f119 at h
 refine fnD_of_E Tryd.func119 rfl (Nat.le_of_ble_eq_true rfl) fun g0 hm hfr => ?_
 have hmk : MkF g0 wI [] := MkF.start
 have rp0 : RV g0.m wI x0 up0 := hm ▸ rp0
 obtain ⟨ff1, fa1, fc1, rfl, fen1, fcl1⟩ := rp1
 show E _ 48 none _ _ _ _ _
 refine E_seq (E_region (EL_do .plain rfl (D_box (g := g0) rfl rp0 fun g1 w1 p1 hs q1 => ?_)))
 have hfr := hfr.ext hs
 have hmk := hmk.ext hs
 refine EL_do .plain rfl (D_box (g := g1) (a := (⟨(.func (.func ff1) fa1 fc1), rfl⟩ : Fv)) rfl (RV_fv.2 rfl) fun g2 w2 p2 hs q2 => ?_)
 have hfr := hfr.ext hs
 have hmk := hmk.ext hs
 have q1 := q1.ext hs
 refine EL_at (.slice none 0 0) rfl rfl ?_
 refine EL_nil (thn_n (E_seq (E_region (EL_do .plain rfl (D_load (g := g2) Tryd.isAgg225 Tryd.sizeOf225 rfl q1 fun v3 r3 => ?_)))))
 refine EL_p (.int .i64 ((x0).length : Int)) (P_len Tryd.underlying225 rfl r3) rfl ?_
 obtain ⟨y4, gJ, h⟩ := bsome h
 refine EL_do .plain rfl (D_makeSliceM (g := g2) 9011 (0 : Int) rfl Tryd.underlying34 info_3 rfl (fun _ _ => rfl) rfl rfl gJ fun g5 w5 v5 hs b5 => ?_)
 have hfr := hfr.stp hs
 have hmk := hmk.stp hs
 have q1 := q1.stp hs
 have q2 := q2.stp hs
 refine EL_do .plain rfl (D_allocOc (g := g5) 2005 (⟨.slice none 0 0, rfl⟩ : Fv) Tryd.zeroValue34 (fun _ _ => fv0_rep) fun g6 w6 p6 hs b6 cb => ?_)
 clear cb
 have hfr := hfr.stp hs
 have hmk := hmk.stp hs
 have q1 := q1.stp hs
 have q2 := q2.stp hs
 have b5 := b5.stp hs rfl
 have z6 : OA 4005 g6 w6 3 ([] : List Int) (.slice none 0 0) := OA.nil
 have on7 := om_one b5
 refine EL_do .plain rfl (D_storeOc (g := g6) (v := v5) (a' := (⟨v5, on7⟩ : Fv)) Tryd.sizeOf34 rfl b6 rfl (RV_fv.2 rfl) fun g7 w7 hs b7 cb => ?_)
 clear cb
 have hfr := hfr.stp hs
 have hmk := hmk.stp hs
 have q1 := q1.stp hs
 have q2 := q2.stp hs
 have b5 := b5.stp hs rfl
 refine EL_nil (thn_n ?_)
 obtain ⟨yA, hx, h⟩ := bsome h
 refine E_joinD (fun e ds w => ∃ (g : Gh) , Fr gI wI g w ∧ MkF g w ds ∧ e 5 = p6 ∧ BX 2005 9011 g w 3 34 (yA : List Int) p6) (fun Q' hQ => ?_) (fun oJ iJ vJ hR => ?_)
 ·replace h := hx
  clear hx
  refine E_seq (E_region (EL_do .plain rfl (D_load (g := g7) Tryd.isAgg225 Tryd.sizeOf225 rfl q1 fun aI bI => ?_)))
  obtain ⟨u9, iH, h⟩ := bsome h
  refine EL_do .plain rfl (D_call (g := g7) (vs := [aI]) en166 (.cons rfl .nil) (wk166 bI iH) fun xJ pJ a9 hs hr => ?_)
  have hfr := hfr.ext hs
  have hmk := hmk.ext hs
  have q1 := q1.ext hs
  have q2 := q2.ext hs
  have b7 := b7.ext hs
  have b5 := b5.ext hs
  have aE := hr
  refine EL_nil (thn_n (E_block ?_))
  have hB0 := hfr.size
  have hmk0 := hmk
  obtain ⟨rC, hφ, h⟩ := bsome h
  refine E_rangeFunc (σ := ((List Int))) (s0 := (y4)) 10 rfl (fun _ => 0) [] (fun (s : (List Int)) (g : Gh) (w : World) => Fr gI wI g w ∧ MkF g w [] ∧ PT g.m w (x0 : List EyeThread) p1 ∧ PT g.m w (⟨(.func (.func ff1) fa1 fc1), rfl⟩ : Fv) p2 ∧ BX 2005 9011 g w 3 34 (s : List Int) p6 ∧ ItV Tryd.prog (RA2 (α := Int) (β := EyeThread)) u9 a9 g.m w) rfl aE hφ (fun _ _ _ _ => rfl) rfl ra2_size rfl (fun _ _ _ _ _ hx hR => by obtain ⟨hfr, hmk, z2, z3, z4, z5⟩ := hR; exact ⟨hfr.ist hx hB0, hmk.ist hx, z2.ist hx, z3.ist hx, z4.ist hx, z5.ist hx⟩) (fun _ _ _ _ _ hx hR => by obtain ⟨hfr, hmk, z2, z3, z4, z5⟩ := hR; exact ⟨hfr.stp hx, hmk.stp hx, z2.stp hx, z3.stp hx, z4.stp hx rfl, z5.stp hx⟩) ⟨hfr, hmk, q1, q2, ⟨_, b7, b5⟩, aE⟩ (fun _ h => by cases h) ?_ ?_
  ·intro zB aB s x b s2 dB cC vs hsz h hR hrec_0 oD hrd
   obtain ⟨iA, hse⟩ : ∃ y, y = s := ⟨s, rfl⟩
   subst hse
   obtain ⟨hfr, hmk, m7, g8, ⟨uC, y6, r8⟩, x6⟩ := hR
   obtain ⟨o0, v8⟩ := x
   obtain ⟨bE, iE, rfl, sD, z9⟩ := ra2_get hrd
   obtain rfl : bE = .int .i64 (o0) := RV_int.1 sD
   have u3 := RFr.refl dB cC
   refine E_seq (E_region (EL_at (.int .i64 (o0)) rfl rfl ?_))
   refine EL_nil (thn_n (E_region (EL_do .plain rfl (D_allocOc (g := dB) 2007 (⟨0, 0⟩ : EyeThread) Tryd.zeroValue231 (fun m w => ⟨_, (rep_two rep_int rep_int), rfl⟩) fun dI yJ bA hs b444 cb => ?_))))
   have hfr := hfr.stp hs
   have hmk := hmk.stp hs
   have u3 := u3.stp hs
   have hrec_0 := hrec_0.stp hs rfl
   have m7 := m7.stp hs
   have g8 := g8.stp hs
   have y6 := y6.stp hs rfl
   have r8 := r8.stp hs rfl
   have x6 := x6.stp hs
   have z9 := z9.stp hs
   clear cb
   refine EL_do .plain rfl (D_storeOc (g := dI) (v := iE) Tryd.sizeOf231 rfl b444 rfl z9 fun lE zJ hs b445 cb => ?_)
   clear cb
   have hfr := hfr.stp hs
   have hmk := hmk.stp hs
   have u3 := u3.stp hs
   have hrec_0 := hrec_0.stp hs rfl
   have m7 := m7.stp hs
   have g8 := g8.stp hs
   have y6 := y6.stp hs rfl
   have r8 := r8.stp hs rfl
   have x6 := x6.stp hs
   refine EL_nil (thn_n ?_)
   obtain ⟨iI, hbr, hs, hrN⟩ := begin_round hrec_0 oD
   refine ⟨iI, hbr, ?_⟩
   have hfr := hfr.stp hs
   have hmk := hmk.stp hs
   have u3 := u3.stp hs
   have m7 := m7.stp hs
   have g8 := g8.stp hs
   have y6 := y6.stp hs rfl
   have r8 := r8.stp hs rfl
   have x6 := x6.stp hs
   have b445 := b445.stp hs rfl
   have hrec_0 := hrN
   clear hbr hs hrN
   refine E_block ?_
   refine E_seq (E_region (EL_do .plain rfl (D_loadO (α := Fv) (g := lE) Tryd.isAgg34 Tryd.sizeOf34 rfl y6 fun mE oE => ?_)))
   have e447 : mE = uC.v := RV_fv.1 oE
   clear oE
   subst mE
   refine EL_mw (.int .i64 (o0)) rfl rfl ?_
   obtain ⟨yH, gD, h⟩ := bsome h
   refine EL_p (ePtr (uC.v) o0 1) (P_indexAddrM (α := Int) Tryd.underlying34 Tryd.sizeOf3 rfl r8 rfl gD) rfl ?_
   refine EL_do .plain rfl (D_storeM (g := lE) (α := Int) (a' := ((1 : Int))) Tryd.sizeOf3 rfl r8 gD rfl (RV_int.2 rfl) fun jI aK hs b449 => ?_)
   have hfr := hfr.stp hs
   have hmk := hmk.stp hs
   have u3 := u3.stp hs
   have hrec_0 := hrec_0.stp hs rfl
   have m7 := m7.stp hs
   have g8 := g8.stp hs
   have y6 := y6.stp hs rfl
   have x6 := x6.stp hs
   have b445 := b445.stp hs rfl
   refine EL_nil (thn_n (E_seq (E_region (EL_mw (.int .i64 (o0)) rfl rfl ?_))))
   refine EL_in (.int .i64 ((w64 (o0 + (1 : Int))))) rfl rfl rfl rfl ?_
   refine EL_at (.int .i64 ((w64 (o0 + (1 : Int))))) rfl rfl ?_
   refine EL_nil (thn_n (E_block ?_))
   refine E_lp h (fun (s : (List Int) × Int) e w => ∃ (g : Gh) , Fr gI wI g w ∧ MkF g w [] ∧ RFr dB cC g w ∧ HB 10 g w zB (.loop { aB with state := .busy }) ∧ e 2 = p1 ∧ PT g.m w (x0 : List EyeThread) p1 ∧ e 3 = p2 ∧ PT g.m w (⟨(.func (.func ff1) fa1 fc1), rfl⟩ : Fv) p2 ∧ e 5 = p6 ∧ BX 2005 9011 g w 3 34 (s.1 : List Int) p6 ∧ e 6 = .int .i64 (o0) ∧ e 7 = bA ∧ OB 2007 g w 231 (v8 : EyeThread) bA ∧ e 8 = .int .i64 (s.2) ∧ e 13 = a9 ∧ ItV Tryd.prog (RA2 (α := Int) (β := EyeThread)) u9 a9 g.m w) ⟨jI, hfr, hmk, u3, hrec_0, rfl, m7, rfl, g8, rfl, ⟨_, y6, b449⟩, rfl, rfl, b445, rfl, rfl, x6⟩ (fun X450 xD jH => ?_)
   rintro ⟨n8, l5⟩ qJ bK ⟨rE, hfr, hmk, u3, hrec_0, vC, iB, uE, aD, vE, ⟨t5, bD, cD⟩, xE, yE, zE, eD, tD, tB⟩ h
   refine E_joinC h (fun (s : Unit) e w => ∃ (g : Gh) , Fr gI wI g w ∧ MkF g w [] ∧ RFr dB cC g w ∧ HB 10 g w zB (.loop { aB with state := .busy }) ∧ e 2 = p1 ∧ PT g.m w (x0 : List EyeThread) p1 ∧ e 3 = p2 ∧ PT g.m w (⟨(.func (.func ff1) fa1 fc1), rfl⟩ : Fv) p2 ∧ e 5 = p6 ∧ BXF 2005 9011 g w 3 34 t5 t5.v (n8 : List Int) p6 ∧ e 6 = .int .i64 (o0) ∧ e 7 = bA ∧ OB 2007 g w 231 (v8 : EyeThread) bA ∧ e 8 = .int .i64 (l5) ∧ e 13 = a9 ∧ ItV Tryd.prog (RA2 (α := Int) (β := EyeThread)) u9 a9 g.m w) (fun X454 zD kH h => ?_) ?_
   ·refine E_seq (E_region (EL_mv eD rfl ?_))
    refine EL_do .plain rfl (D_load (g := rE) Tryd.isAgg225 Tryd.sizeOf225 vC iB fun cK kI => ?_)
    refine EL_p (.int .i64 ((x0).length : Int)) (P_len Tryd.underlying225 rfl kI) rfl ?_
    refine EL_in (.bool ((decide (l5 < ((x0).length : Int))))) rfl rfl rfl rfl ?_
    refine EL_nil (thn_n ?_)
    rcases csome h with ⟨mC, h⟩ | ⟨mC, h⟩
    ·refine E_ct mC rfl ?_
     exact E_skip (thn_n (kH () _ _ ⟨rE, hfr, hmk, u3, hrec_0, vC, iB, uE, aD, vE, ⟨bD, cD⟩, xE, yE, zE, eD, tD, tB⟩ h))
    ·refine E_cf mC rfl ?_
     refine E_exit ?_
     refine thn_e ?_
     refine thn_e ?_
     refine blk_hit ?_
     refine blk_n ?_
     obtain ⟨rfl, rfl⟩ := pairs2 h
     exact ⟨_, u3, ⟨hfr, hmk, iB, aD, ⟨_, bD, cD⟩, tB⟩, hrec_0, rfl, rfl⟩
   ·rintro _ rJ dK ⟨lI, hfr, hmk, u3, hrec_0, lB, k8, mB, l8, x8, ⟨x5, i6⟩, k9, nB, m8, l9, vB, i7⟩ h
    obtain ⟨d9, hx, h⟩ := bsome h
    refine E_join (fun e w => ∃ (g : Gh) , Fr gI wI g w ∧ MkF g w [] ∧ RFr dB cC g w ∧ HB 10 g w zB (.loop { aB with state := .busy }) ∧ e 2 = p1 ∧ PT g.m w (x0 : List EyeThread) p1 ∧ e 3 = p2 ∧ PT g.m w (⟨(.func (.func ff1) fa1 fc1), rfl⟩ : Fv) p2 ∧ e 5 = p6 ∧ BX 2005 9011 g w 3 34 (d9 : List Int) p6 ∧ e 6 = .int .i64 (o0) ∧ e 7 = bA ∧ OB 2007 g w 231 (v8 : EyeThread) bA ∧ e 8 = .int .i64 (l5) ∧ e 13 = a9 ∧ ItV Tryd.prog (RA2 (α := Int) (β := EyeThread)) u9 a9 g.m w) (fun Q' hQ => ?_) (fun sJ lK hR => ?_)
    ·replace h := hx
     clear hx
     refine E_block ?_
     refine E_seq (L_load (α := Fv) (x := .tmp 3) Tryd.isAgg228 Tryd.sizeOf228 l8 fun cF dF lH => ?_)
     have e521 : cF = (.func (.func ff1) fa1 fc1) := RV_fv.1 dF
     clear dF
     subst cF
     refine L_loadO0 (x := .tmp 7) Tryd.isAgg231 Tryd.sizeOf231 m8 fun eF mI mH => ?_
     refine L_load (x := .tmp 2) Tryd.isAgg225 Tryd.sizeOf225 k8 fun rF sF nH => ?_
     obtain ⟨yD, iD, h⟩ := bsome h
     have nI := PT_idx sF iD
     refine L_load (x := .tmp 31) Tryd.isAgg231 Tryd.sizeOf231 nI fun tF pI oH => ?_
     obtain ⟨yB, pH, h⟩ := bsome h
     refine E_drawL (g := lI) (n := 7) [(6, (fun v g w => v = .bool (yB)))] [0, 1, 2, 3, 4, 5, 6] rfl mixed (by kernel_rfl) (⟨fun _ => up_eq _, trivial⟩) ?_
     refine L_ld (c := (.func (.func ff1) fa1 fc1)) rfl rfl .plain (fun _ _ h => h.ch) lH mB ?_
     refine L_ld (c := eF) rfl rfl .plain (fun _ _ h => ⟨h.ch, fun b hb _ => h.below.block b hb⟩) mH nB ?_
     refine L_ld (c := rF) rfl rfl .plain (fun _ _ h => h.ch) nH lB ?_
     refine L_p (.int .i64 (l5)) rfl rfl (P_move l9) ?_
     refine L_p (ePtr rF l5 2) rfl rfl (P_indexAddr (α := EyeThread) Tryd.underlying225 Tryd.sizeOf231 rfl sF rfl iD) ?_
     refine L_ld (c := tF) rfl rfl .plain (fun _ _ h => h.ch) oH rfl ?_
     refine L_do (φ := fun v g w => v = .bool (yB)) rfl rfl .plain (fun g w hd => D_callv (g := g) (vs := [eF, tF]) rfl fen1 (.cons rfl (.cons rfl .nil)) (fcl1 _ _ (hfr.ext hd.1).ch _ _ _ _ _  (mI.ext hd.1) (pI.ext hd.1) pH) fun g' w' v hs hr => ⟨g', hs, RV_bool.1 hr⟩) (fun mK hv => ?_)
     obtain ⟨_, _, _, rfl⟩ := hv
     refine L_nl fun uF nK hs => ?_
     have hfr := hfr.ext hs
     have hmk := hmk.ext hs
     have u3 := u3.ext hs
     have hrec_0 := hrec_0.ext hs
     have k8 := k8.ext hs
     have l8 := l8.ext hs
     have x5 := x5.ext hs
     have i6 := i6.ext hs
     have m8 := m8.ext hs
     have i7 := i7.ext hs
     clear hs
     refine EL_nil (thn_n ?_)
     rcases csome h with ⟨qC, h⟩ | ⟨qC, h⟩
     ·refine E_ct qC rfl ?_
      refine L_loadO0 (α := Fv) (x := .tmp 5) Tryd.isAgg34 Tryd.sizeOf34 x5 fun vF xF qH => ?_
      have e546 : vF = t5.v := RV_fv.1 xF
      clear xF
      subst vF
      refine L_loadO0 (α := Fv) (x := .tmp 5) Tryd.isAgg34 Tryd.sizeOf34 x5 fun yF zF sH => ?_
      have e547 : yF = t5.v := RV_fv.1 zF
      clear zF
      subst yF
      obtain ⟨rA, jD, h⟩ := bsome h
      refine L_loadM (x := .tmp 38) Tryd.isAgg3 Tryd.sizeOf3 i6 jD fun oK qI tH => ?_
      obtain rfl := RV_int.1 qI
      refine L_loadO0 (α := Fv) (x := .tmp 5) Tryd.isAgg34 Tryd.sizeOf34 x5 fun aG bG uH => ?_
      have e550 : aG = t5.v := RV_fv.1 bG
      clear bG
      subst aG
      obtain ⟨y9, lD, h⟩ := bsome h
      refine L_loadM (x := .tmp 42) Tryd.isAgg3 Tryd.sizeOf3 i6 lD fun pK sI xH => ?_
      obtain rfl := RV_int.1 sI
      obtain ⟨zH, nD, h⟩ := bsome h
      refine E_drawL (g := uF) (n := 13) [] [0, 1, 2, 3, 4, 5, 6, 7, 8, 9, 10, 11, 12] rfl mixed (by kernel_rfl) trivial ?_
      refine L_ld (c := t5.v) rfl rfl .plain (fun _ _ h => ⟨h.ch, fun b hb _ => h.below.block b hb⟩) qH x8 ?_
      refine L_p (.int .i64 (o0)) rfl rfl (P_move k9) ?_
      refine L_ld (c := t5.v) rfl rfl .plain (fun _ _ h => ⟨h.ch, fun b hb _ => h.below.block b hb⟩) sH x8 ?_
      refine L_p (.int .i64 (o0)) rfl rfl (P_move k9) ?_
      refine L_p (ePtr (t5.v) o0 1) rfl rfl (P_indexAddrM (α := Int) Tryd.underlying34 Tryd.sizeOf3 rfl i6 rfl jD) ?_
      refine L_ld (c := .int .i64 (rA)) rfl rfl .plain (fun _ _ h => ⟨h.ch, fun b hb _ => h.below.block b hb⟩) tH rfl ?_
      refine L_ld (c := t5.v) rfl rfl .plain (fun _ _ h => ⟨h.ch, fun b hb _ => h.below.block b hb⟩) uH x8 ?_
      refine L_p (.int .i64 (l5)) rfl rfl (P_move l9) ?_
      refine L_p (ePtr (t5.v) l5 1) rfl rfl (P_indexAddrM (α := Int) Tryd.underlying34 Tryd.sizeOf3 rfl i6 rfl lD) ?_
      refine L_ld (c := .int .i64 (y9)) rfl rfl .plain (fun _ _ h => ⟨h.ch, fun b hb _ => h.below.block b hb⟩) xH rfl ?_
      refine L_p (.int .i64 ((w64 (y9 + (1 : Int))))) rfl rfl (P_int rfl rfl rfl) ?_
      refine L_p (.int .i64 (max64 rA (w64 (y9 + (1 : Int))))) rfl rfl (P_max rfl rfl) ?_
      refine L_p (ePtr (t5.v) o0 1) rfl rfl (P_indexAddrM (α := Int) Tryd.underlying34 Tryd.sizeOf3 rfl i6 rfl nD) ?_
      refine L_nl fun tI qK hs => ?_
      have hfr := hfr.ext hs
      have hmk := hmk.ext hs
      have u3 := u3.ext hs
      have hrec_0 := hrec_0.ext hs
      have k8 := k8.ext hs
      have l8 := l8.ext hs
      have x5 := x5.ext hs
      have i6 := i6.ext hs
      have m8 := m8.ext hs
      have i7 := i7.ext hs
      clear hs
      refine EL_do .plain rfl (D_storeM (g := tI) (α := Int) (a' := ((max64 rA (w64 (y9 + (1 : Int)))))) Tryd.sizeOf3 rfl i6 nD rfl (RV_int.2 rfl) fun uI sK hs b583 => ?_)
      have hfr := hfr.stp hs
      have hmk := hmk.stp hs
      have u3 := u3.stp hs
      have hrec_0 := hrec_0.stp hs rfl
      have k8 := k8.stp hs
      have l8 := l8.stp hs
      have x5 := x5.stp hs rfl
      have m8 := m8.stp hs rfl
      have i7 := i7.stp hs
      refine EL_nil (blk_n ?_)
      obtain rfl := sinj h
      exact hQ _ _ ⟨uI, hfr, hmk, u3, hrec_0, lB, k8, mB, l8, x8, ⟨_, x5, b583⟩, k9, nB, m8, l9, vB, i7⟩
     ·refine E_cf qC rfl ?_
      refine E_skip (blk_n ?_)
      obtain rfl := sinj h
      exact hQ _ _ ⟨uF, hfr, hmk, u3, hrec_0, lB, k8, mB, l8, x8, ⟨_, x5, i6⟩, k9, nB, m8, l9, vB, i7⟩
    ·clear hx
     obtain ⟨vI, hfr, hmk, u3, hrec_0, cG, eG, gG, hG, iG, ⟨jJ, jG, kG⟩, lG, mG, sG, xG, uD, vD⟩ := hR
     refine E_region (EL_mv xG rfl ?_)
     refine EL_in (.int .i64 ((w64 (l5 + (1 : Int))))) rfl rfl rfl rfl ?_
     refine EL_at (.int .i64 ((w64 (l5 + (1 : Int))))) rfl rfl ?_
     exact EL_nil (thn_n (jH (d9, (w64 (l5 + (1 : Int)))) _ _ ⟨vI, hfr, hmk, u3, hrec_0, cG, eG, gG, hG, iG, ⟨_, jG, kG⟩, lG, mG, sG, rfl, uD, vD⟩ h))
  ·intro yI tK ds586 hsz hR hds
   obtain ⟨hfr, hmk, kJ, lJ, ⟨mJ, yG, zG⟩, eJ⟩ := hR
   obtain ⟨D, hdse, hD, hDb⟩ := hds.1 rfl
   subst hdse
   replace hmk := MkF.push hmk0 hmk hD hDb
   clear hD hDb hds
   revert hmk
   generalize ({ target := .collected D, args := #[] } :: [] : List Deferred) = nJ
   intro hmk
   refine ⟨fun _ => ?_, fun k c hs _ => absurd hs (Nat.succ_ne_zero k).symm⟩
   refine blk_n ?_
   obtain rfl := sinj h
   exact hQ _ _ _ ⟨yI, hfr, hmk, rfl, ⟨_, yG, zG⟩⟩
 ·clear hx
  obtain ⟨zI, hfr, hmk, aH, ⟨oB, n9, cH⟩⟩ := hR
  refine E_seq (E_region (EL_do .plain rfl (D_loadO (α := Fv) (g := zI) Tryd.isAgg34 Tryd.sizeOf34 aH n9 fun dH gH => ?_)))
  have e588 : dH = oB.v := RV_fv.1 gH
  clear gH
  subst dH
  obtain ⟨gp589, hs, rp589⟩ := OM.pub cH
  have hfr := hfr.stp hs
  have hmk := hmk.stp hs
  have n9 := n9.stp hs rfl
  have ub589 := OB.ofRV n9 rp589
  refine EL_at (oB.v) rfl rfl ?_
  refine EL_nil (thn_n (E_ret (endM (.inr rfl) hmk fun uK vK hs => ?_)))
  have hfr := hfr.stp hs
  have rp589 := rp589.stp hs
  obtain rfl := sinj h
  exact end1 rfl rfl (show _ = oB.v from rfl) ⟨_, hfr, rp589⟩
theorem u162 {iO : Nat} {gI : Gh} {wI : World} {x0 : It Int} {up0 : Value} (rp0 : ItV Tryd.prog (RA1 (α := Int)) x0 up0 gI.m wI) {r : (List Int)} (h : f162 x0 = some r) : FnG Tryd.prog 162 #[up0] gI wI (fun g w v => OS iO g w 3 r v ∧ RV g.m w r v) := by
 unfold f162 at h
 refine fnG_of_E Tryd.func162 rfl (Nat.le_of_ble_eq_true rfl) fun g0 hm hfr => ?_
 have rp0 : ItV Tryd.prog (RA1 (α := Int)) x0 up0 g0.m wI := hm ▸ rp0
 show E _ 5 none _ _ _ _ _
 refine E_seq (E_region (EL_at (.slice none 0 0) rfl rfl ?_))
 refine EL_nil (thn_n (E_seq (E_region (EL_mw up0 rfl rfl ?_))))
 obtain ⟨y2, hy2, h⟩ := bsome h
 refine EL_do .plain rfl (D_callG (g := g0) (vs := [.slice none 0 0, up0]) en195 (.cons rfl (.cons rfl .nil)) (u195 (iO := 4004) rp0 hy2) fun g1 w1 v1 hs m1 => ?_)
 obtain ⟨o1, r1⟩ := m1
 have hfr := hfr.ext hs
 refine EL_at v1 rfl rfl ?_
 refine EL_nil (thn_n (E_ret ?_))
 obtain rfl := sinj h
 obtain ⟨gh, hxh, homh, hrvh⟩ := OS.handn (i := iO) hfr o1 r1
 exact end1 rfl rfl (show _ = v1 from rfl) ⟨gh, hxh, homh, hrvh⟩
def f124 (x0 : Str) (x1 : Str) : Option (Str) :=
 jn (σ := Unit) (fun _ =>
  jn (σ := Unit) (fun _ =>
   jn (σ := Unit) (fun _ =>
    none
    ) fun iA =>
   (f170 x1).bind fun t5 =>
   bif t5.2 then
    (f172 x0 (t5.1)).bind fun n9 =>
    (f171 n9 (t5.1)).bind fun y80 =>
    some (y80)
   else
    iA ()
   ) fun rA =>
  Option.bind (α := Bool) (
   bif (((x1).b.length : Int) == (1 : Int)) then
    (idx (x1).b (0 : Int)).bind fun k8 =>
    some ((decide (k8 < (128 : UInt8))))
   else
    some (false)
   ) fun u3 =>
  bif u3 then
   (idx (x1).b (0 : Int)).bind fun r8 =>
   (f169 x0 r8).bind fun y44 =>
   (idx (x1).b (0 : Int)).bind fun v8 =>
   (f168 y44 v8).bind fun x6 =>
   some (x6)
  else
   rA ()
  ) fun k5 =>
 Option.bind (α := Bool) (
  bif ((x0).b == ((⟨[]⟩ : Str)).b) then
   some (true)
  else
   some (((x1).b == ((⟨[]⟩ : Str)).b))
  ) fun l5 =>
 bif l5 then
  some (x0)
 else
  k5 ()
theorem en124 : Enters Tryd.prog 124 := enters_of Tryd.func124 (by kernel_rfl) rfl
theorem wk124 {gI : Gh} {wI : World} {x0 : Str} {x1 : Str}  {r : Str} (h : f124 x0 x1 = some r) : Fn Tryd.prog 124 #[Str.v (x0), Str.v (x1)] gI wI (fun _ _ v => v = Str.v (r)) := by
 unfold f124 at h
 refine fn_of_E Tryd.func124 rfl (Nat.le_of_ble_eq_true rfl) fun g0 hm hfr => ?_
 show E _ 43 none _ _ _ _ _
 refine E_seq (E_region (EL_at (Str.v (⟨[]⟩ : Str)) rfl rfl ?_))
 refine EL_nil (thn_n (E_joinC h (fun (s : Unit) e w => ∃ (g : Gh) , Fr gI wI g w ∧ e 0 = Str.v (x0) ∧ e 1 = Str.v (x1)) (fun X5 k5 hk5 h => ?_) ?_))
 ·obtain ⟨l5, hx, h⟩ := bsome h
  refine E_join (fun e w => ∃ (g : Gh) , Fr gI wI g w ∧ e 0 = Str.v (x0) ∧ e 1 = Str.v (x1) ∧ e 12 = .bool (l5)) (fun Q' hQ => ?_) (fun oD w8 hR => ?_)
  ·replace h := hx
   clear hx
   refine E_region (EL_mw (Str.v (x0)) rfl rfl ?_)
   refine EL_p (.bool (((x0).b == ((⟨[]⟩ : Str)).b))) (P_str rfl rfl rfl) rfl ?_
   refine EL_mw (.bool (((x0).b == ((⟨[]⟩ : Str)).b))) rfl rfl ?_
   rcases csome h with ⟨i6, h⟩ | ⟨i6, h⟩
   ·refine EL_s rfl rfl i6 rfl rfl ?_
    refine EL_s rfl rfl i6 rfl rfl ?_
    refine EL_p (.bool true) (P_pick (b := ((x0).b == ((⟨[]⟩ : Str)).b)) rfl (pick_t i6 rfl)) rfl ?_
    refine EL_nil ?_
    obtain rfl := sinj h
    exact hQ _ _ ⟨g0, hfr, rfl, rfl, rfl⟩
   ·refine EL_y (Str.v (x1)) (P_move rfl) rfl rfl i6 rfl ?_
    refine EL_y (.bool (((x1).b == ((⟨[]⟩ : Str)).b))) (P_str rfl rfl rfl) rfl rfl i6 rfl ?_
    refine EL_p (.bool (((x1).b == ((⟨[]⟩ : Str)).b))) (P_pick (b := ((x0).b == ((⟨[]⟩ : Str)).b)) rfl (pick_f i6 rfl)) rfl ?_
    refine EL_nil ?_
    obtain rfl := sinj h
    exact hQ _ _ ⟨g0, hfr, rfl, rfl, rfl⟩
  ·clear hx
   obtain ⟨g8, hfr, u9, lB, x8⟩ := hR
   rcases csome h with ⟨y9, h⟩ | ⟨y9, h⟩
   ·refine E_cond_true (Eq.trans (show ev _ _ = .bool (l5) from x8) (congrArg Value.bool y9)) ?_
    refine E_seq (E_region (EL_mv u9 rfl ?_))
    refine EL_at (Str.v (x0)) rfl rfl ?_
    refine EL_nil (thn_n (E_ret (thn_r ?_)))
    obtain rfl := sinj h
    exact end1 rfl rfl (show _ = Str.v (x0) from rfl) ⟨_, hfr, rfl⟩
   ·refine E_cond_false (Eq.trans (show ev _ _ = .bool (l5) from x8) (congrArg Value.bool y9)) ?_
    exact E_skip (thn_n (hk5 () _ _ ⟨g8, hfr, u9, lB⟩ h))
 ·rintro _ cD sD ⟨yA, hfr, a9, x5⟩ h
  refine E_joinC h (fun (s : Unit) e w => ∃ (g : Gh) , Fr gI wI g w ∧ e 0 = Str.v (x0) ∧ e 1 = Str.v (x1)) (fun X35 rA mB h => ?_) ?_
  ·obtain ⟨u3, hx, h⟩ := bsome h
   refine E_join (fun e w => ∃ (g : Gh) , Fr gI wI g w ∧ e 0 = Str.v (x0) ∧ e 1 = Str.v (x1) ∧ e 21 = .bool (u3)) (fun Q' hQ => ?_) (fun eD tD hR => ?_)
   ·replace h := hx
    clear hx
    refine E_region (EL_mv x5 rfl ?_)
    refine EL_p (.int .i64 ((x1).b.length : Int)) (P_lenS Tryd.underlying9 rfl) rfl ?_
    refine EL_in (.bool ((((x1).b.length : Int) == (1 : Int)))) rfl rfl rfl rfl ?_
    refine EL_mw (.bool ((((x1).b.length : Int) == (1 : Int)))) rfl rfl ?_
    rcases csome h with ⟨o0, h⟩ | ⟨o0, h⟩
    ·refine EL_y (Str.v (x1)) (P_move x5) rfl rfl o0 rfl ?_
     obtain ⟨k8, nB, h⟩ := bsome h
     refine EL_y (.int .u8 (UInt8.toNat (k8))) (P_indexS Tryd.underlying9 rfl rfl nB) rfl rfl o0 rfl ?_
     refine EL_y (.bool ((decide (k8 < (128 : UInt8))))) (P_u8 rfl rfl rfl) rfl rfl o0 rfl ?_
     refine EL_p (.bool ((decide (k8 < (128 : UInt8))))) (P_pick (b := (((x1).b.length : Int) == (1 : Int))) rfl (pick_t o0 rfl)) rfl ?_
     refine EL_nil ?_
     obtain rfl := sinj h
     exact hQ _ _ ⟨yA, hfr, a9, x5, rfl⟩
    ·refine EL_s rfl rfl o0 rfl rfl ?_
     refine EL_s rfl rfl o0 rfl rfl ?_
     refine EL_s rfl rfl o0 rfl rfl ?_
     refine EL_p (.bool false) (P_pick (b := (((x1).b.length : Int) == (1 : Int))) rfl (pick_f o0 rfl)) rfl ?_
     refine EL_nil ?_
     obtain rfl := sinj h
     exact hQ _ _ ⟨yA, hfr, a9, x5, rfl⟩
   ·clear hx
    obtain ⟨aB, hfr, d9, y6, l8⟩ := hR
    rcases csome h with ⟨m8, h⟩ | ⟨m8, h⟩
    ·refine E_cond_true (Eq.trans (show ev _ _ = .bool (u3) from l8) (congrArg Value.bool m8)) ?_
     refine E_seq ?_
     obtain ⟨r8, oB, h⟩ := bsome h
     obtain ⟨y44, tB, h⟩ := bsome h
     obtain ⟨v8, vB, h⟩ := bsome h
     obtain ⟨x6, yB, h⟩ := bsome h
     refine E_drawL (g := aB) (n := 8) [(3, (fun v g w => v = Str.v (y44))), (6, (fun v g w => v = Str.v (x6)))] [0, 1, 2, 3, 4, 5, 6, 7] rfl mixed (by kernel_rfl) (⟨fun _ => up_eq _, fun _ => up_eq _, trivial⟩) ?_
     refine L_p (Str.v (x0)) rfl rfl (P_move d9) ?_
     refine L_p (Str.v (x1)) rfl rfl (P_move y6) ?_
     refine L_p (.int .u8 (UInt8.toNat (r8))) rfl rfl (P_indexS Tryd.underlying9 rfl rfl oB) ?_
     refine L_do (φ := fun v g w => v = Str.v (y44)) rfl rfl .plain (fun g w hd => D_call (g := g) (vs := [Str.v (x0), .int .u8 (UInt8.toNat (r8))]) en169 (.cons rfl (.cons rfl .nil)) (wk169  tB) fun g' w' v hs hr => ⟨g', hs, hr⟩) (fun uD hv => ?_)
     obtain ⟨_, _, _, rfl⟩ := hv
     refine L_p (Str.v (x1)) rfl rfl (P_move y6) ?_
     refine L_p (.int .u8 (UInt8.toNat (v8))) rfl rfl (P_indexS Tryd.underlying9 rfl rfl vB) ?_
     refine L_do (φ := fun v g w => v = Str.v (x6)) rfl rfl .plain (fun g w hd => D_call (g := g) (vs := [Str.v (y44), .int .u8 (UInt8.toNat (v8))]) en168 (.cons rfl (.cons rfl .nil)) (wk168  yB) fun g' w' v hs hr => ⟨g', hs, hr⟩) (fun vD hv => ?_)
     obtain ⟨_, _, _, rfl⟩ := hv
     refine L_p (Str.v (x6)) rfl rfl (P_assign rfl) ?_
     refine L_nl fun xD yD hs => ?_
     have hfr := hfr.ext hs
     clear hs
     refine EL_nil (thn_n (E_ret (thn_r ?_)))
     obtain rfl := sinj h
     exact end1 rfl rfl (show _ = Str.v (x6) from rfl) ⟨_, hfr, rfl⟩
    ·refine E_cond_false (Eq.trans (show ev _ _ = .bool (u3) from l8) (congrArg Value.bool m8)) ?_
     exact E_skip (thn_n (mB () _ _ ⟨aB, hfr, d9, y6⟩ h))
  ·rintro _ gD zD ⟨rC, hfr, k9, l9⟩ h
   refine E_joinC h (fun (s : Unit) e w => ∃ (g : Gh) , Fr gI wI g w ∧ e 0 = Str.v (x0) ∧ e 1 = Str.v (x1)) (fun X71 iA zB h => ?_) ?_
   ·refine E_seq (E_region (EL_mv l9 rfl ?_))
    obtain ⟨t5, cC, h⟩ := bsome h
    refine EL_do .plain rfl (D_call (g := rC) (vs := [Str.v (x1)]) en170 (.cons rfl .nil) (wk170  cC) fun uC iD aE hs hr => ?_)
    have hfr := hfr.ext hs
    obtain ⟨i7, bD, rfl, m7, rfl⟩ := hr
    refine EL_mw (.tuple #[i7, .bool (t5.2)]) rfl rfl ?_
    refine EL_p i7 (P_extract rfl rfl) rfl ?_
    refine EL_p (.bool (t5.2)) (P_extract rfl rfl) rfl ?_
    refine EL_do .plain rfl (D_allocOc (g := uC) 2005 ((Vector.replicate 256 false) : Vector Bool 256) Tryd.zeroValue278 (fun m w => ⟨_, (rep_replicate rep_bool), by kernel_rfl⟩) fun vC bE dB hs b74 cb => ?_)
    have hfr := hfr.stp hs
    have m7 := m7.stp hs
    clear cb
    refine EL_do .plain rfl (D_storeOc (g := vC) (v := i7) Tryd.sizeOf278 rfl b74 rfl m7 fun iB iE hs b75 cb => ?_)
    clear cb
    have hfr := hfr.stp hs
    refine EL_at (.bool (t5.2)) rfl rfl ?_
    refine EL_nil (thn_n (E_seq (E_region (EL_mw (.bool (t5.2)) rfl rfl ?_))))
    refine EL_nil (thn_n ?_)
    rcases csome h with ⟨n8, h⟩ | ⟨n8, h⟩
    ·refine E_ct n8 rfl ?_
     refine E_seq (E_region (EL_mv k9 rfl ?_))
     obtain ⟨n9, mC, h⟩ := bsome h
     refine EL_do .plain rfl (D_callF (g := iB) (vs := [Str.v (x0), dB]) en172 (.cons rfl (.cons rfl .nil)) (wk172 (OB.lent b75) mC) fun aD jD lE hs hr => ?_)
     have hfr := hfr.ext hs
     have b75 := b75.ext hs
     subst hr
     obtain ⟨y80, qC, h⟩ := bsome h
     refine EL_do .plain rfl (D_callF (g := aD) (vs := [Str.v (n9), dB]) en171 (.cons rfl (.cons rfl .nil)) (wk171 (OB.lent b75) qC) fun mE lD oE hs hr => ?_)
     have hfr := hfr.ext hs
     subst hr
     refine EL_at (Str.v (y80)) rfl rfl ?_
     refine EL_nil (thn_n (E_ret (thn_r ?_)))
     obtain rfl := sinj h
     exact end1 rfl rfl (show _ = Str.v (y80) from rfl) ⟨_, hfr, rfl⟩
    ·refine E_cf n8 rfl ?_
     exact E_skip (thn_n (zB () _ _ ⟨iB, hfr, k9, l9⟩ h))
   ·rintro _ nD rE ⟨uE, hfr, z9, bA⟩ h
    refine E_seq (E_region (EL_mv z9 rfl ?_))
    refine EL_mv bA rfl ?_
    cases h
def f156 (x0 : Str) (z0 : Int) : Option (Bool) :=
 Option.bind (α := Bool) (
  bif (((x0).b.length : Int) != z0) then
   some (true)
  else
   (f124 x0 ((⟨[120, 46]⟩ : Str))).bind fun y8 =>
   some ((!((y8).b == ((⟨[]⟩ : Str)).b)))
  ) fun o0 =>
 some (o0)
theorem en156 : Enters Tryd.prog 156 := enters_of Tryd.func156 (by kernel_rfl) rfl
theorem wk156 {gI : Gh} {wI : World} {x0 : Str} {z0 : Int} {pf0 : Value} (qf0 : PT gI.m wI z0 pf0) {r : Bool} (h : f156 x0 z0 = some r) : Fn Tryd.prog 156 #[Str.v (x0), pf0] gI wI (fun _ _ v => v = .bool (r)) := by
 unfold f156 at h
 refine fn_of_E Tryd.func156 rfl (Nat.le_of_ble_eq_true rfl) fun g0 hm hfr => ?_
 have qf0 : PT g0.m wI z0 pf0 := hm ▸ qf0
 show E _ 13 none _ _ _ _ _
 refine E_seq (E_region (EL_at (.bool false) rfl rfl ?_))
 refine EL_nil (thn_n ?_)
 obtain ⟨o0, hx, h⟩ := bsome h
 refine E_join (fun e w => ∃ (g : Gh) , Fr gI wI g w ∧ e 3 = .bool (o0)) (fun Q' hQ => ?_) (fun t5 w9 hR => ?_)
 ·replace h := hx
  clear hx
  refine E_region (EL_mw (Str.v (x0)) rfl rfl ?_)
  refine EL_p (.int .i64 ((x0).b.length : Int)) (P_lenS Tryd.underlying9 rfl) rfl ?_
  refine EL_do .plain rfl (D_load (g := g0) Tryd.isAgg3 Tryd.sizeOf3 rfl qf0 fun v5 r5 => ?_)
  obtain rfl := RV_int.1 r5
  refine EL_in (.bool ((((x0).b.length : Int) != z0))) rfl rfl rfl rfl ?_
  refine EL_mw (.bool ((((x0).b.length : Int) != z0))) rfl rfl ?_
  rcases csome h with ⟨hc6, h⟩ | ⟨hc6, h⟩
  ·refine EL_s rfl rfl hc6 rfl rfl ?_
   refine EL_s rfl rfl hc6 rfl rfl ?_
   refine EL_s rfl rfl hc6 rfl rfl ?_
   refine EL_p (.bool true) (P_pick (b := (((x0).b.length : Int) != z0)) rfl (pick_t hc6 rfl)) rfl ?_
   refine EL_at (.bool true) rfl rfl ?_
   refine EL_nil ?_
   obtain rfl := sinj h
   exact hQ _ _ ⟨g0, hfr, rfl⟩
  ·refine EL_y (Str.v (x0)) (P_move rfl) rfl rfl hc6 rfl ?_
   obtain ⟨y8, l5, h⟩ := bsome h
   refine EL_do (.yes2 rfl rfl hc6) rfl (D_call (g := g0) (vs := [Str.v (x0), Str.v (⟨[120, 46]⟩ : Str)]) en124 (.cons rfl (.cons rfl .nil)) (wk124  l5) fun g7 w7_ v7 hs hr => ?_)
   have hfr := hfr.ext hs
   subst hr
   refine EL_y (.bool ((!((y8).b == ((⟨[]⟩ : Str)).b)))) (P_str rfl rfl rfl) rfl rfl hc6 rfl ?_
   refine EL_p (.bool ((!((y8).b == ((⟨[]⟩ : Str)).b)))) (P_pick (b := (((x0).b.length : Int) != z0)) rfl (pick_f hc6 rfl)) rfl ?_
   refine EL_at (.bool ((!((y8).b == ((⟨[]⟩ : Str)).b)))) rfl rfl ?_
   refine EL_nil ?_
   obtain rfl := sinj h
   exact hQ _ _ ⟨g7, hfr, rfl⟩
 ·clear hx
  obtain ⟨g9, hfr, u3⟩ := hR
  refine E_ret ?_
  obtain rfl := sinj h
  exact end1 rfl rfl (show _ = .bool (o0) from u3) ⟨_, hfr, rfl⟩
def f29 (x0 : TieHarness) (x1 : List Int) : Option ((List Int) × Int) :=
 jn (σ := (List Int)) (fun a9 =>
  Option.bind (α := (List Int)) (
   lp (σ := (List Int) × Int) (fun uC (y6, o0) =>
    bif (decide (o0 < ((x1).length : Int))) then
     Option.bind (α := (List Int)) (
      (f65 ((⟨x0, x1⟩ : EyeBoard)) o0).bind fun z9 =>
      bif (!z9) then
       (apnd 8 y6 (([o0] : List Int))).bind fun vC =>
       some (vC)
      else
       some (y6)
      ) fun i6 =>
     uC (i6, (w64 (o0 + (1 : Int))))
    else
     some (y6)
    ) big (a9, (0 : Int))
   ) fun i7 =>
  some (i7, (0 : Int))
  ) fun k6 =>
 (f64 x0 x1).bind fun y9 =>
 bif (y9 != (0 : Int)) then
  some ([], y9)
 else
  k6 ([])
theorem en29 : Enters Tryd.prog 29 := enters_of Tryd.func29 (by kernel_rfl) rfl
theorem wk29 {gI : Gh} {wI : World} {x0 : TieHarness} {x1 : List Int} {up0 : Value} (rp0 : RV gI.m wI x0 up0) {up1 : Value} (rp1 : RV gI.m wI x1 up1) {r : (List Int) × Int} (h : f29 x0 x1 = some r) : Fn Tryd.prog 29 #[up0, up1] gI wI (fun m w v => ∃ y0 y1, v = .tuple #[y0, y1] ∧ RV m w (r.1) y0 ∧ y1 = .int .i64 (r.2)) := by
 unfold f29 at h
 refine fn_of_E Tryd.func29 rfl (Nat.le_of_ble_eq_true rfl) fun g0 hm hfr => ?_
 have rp0 : RV g0.m wI x0 up0 := hm ▸ rp0
 have rp1 : RV g0.m wI x1 up1 := hm ▸ rp1
 show E _ 31 none _ _ _ _ _
 refine E_seq (E_region (EL_do .plain rfl (D_box (g := g0) rfl rp0 fun g1 w1 p1 hs q1 => ?_)))
 have hfr := hfr.ext hs
 have rp1 := rp1.ext hs
 refine EL_at (.slice none 0 0) rfl rfl ?_
 refine EL_at (.int .i64 (0)) rfl rfl ?_
 refine EL_nil (thn_n (E_joinC h (fun (s : (List Int)) e w => ∃ (g : Gh) (v4 : Value), Fr gI wI g w ∧ e 1 = up1 ∧ RV g.m w (x1 : List Int) up1 ∧ e 2 = p1 ∧ PT g.m w (x0 : TieHarness) p1 ∧ e 4 = v4 ∧ RV g.m w (s : List Int) v4 ∧ OS 1004 g w 3 (s : List Int) v4) (fun X6 k6 hk6 h => ?_) ?_))
 ·refine E_seq (E_region (EL_do .plain rfl (D_load (g := g1) Tryd.isAgg52 Tryd.sizeOf52 rfl q1 fun v7 r7 => ?_)))
  refine EL_mw up1 rfl rfl ?_
  obtain ⟨y9, oD, h⟩ := bsome h
  refine EL_do .plain rfl (D_call (g := g1) (vs := [v7, up1]) en64 (.cons rfl (.cons rfl .nil)) (wk64 r7 rp1 oD) fun g8 w8_ v8 hs hr => ?_)
  have hfr := hfr.ext hs
  have rp1 := rp1.ext hs
  have q1 := q1.ext hs
  subst hr
  refine EL_at (.int .i64 (y9)) rfl rfl ?_
  refine EL_nil (thn_n (E_seq (E_region (EL_mw (.int .i64 (y9)) rfl rfl ?_))))
  refine EL_in (.bool ((y9 != (0 : Int)))) rfl rfl rfl rfl ?_
  refine EL_nil (thn_n ?_)
  rcases csome h with ⟨n8, h⟩ | ⟨n8, h⟩
  ·refine E_ct n8 rfl ?_
   refine E_seq (E_region (EL_mw (.int .i64 (y9)) rfl rfl ?_))
   refine EL_at (.slice none 0 0) rfl rfl ?_
   refine EL_at (.int .i64 (y9)) rfl rfl ?_
   refine EL_nil (thn_n (E_ret (thn_r ?_)))
   obtain rfl := sinj h
   exact end2 rfl rfl (show _ = .slice none 0 0 from rfl) (show _ = .int .i64 (y9) from rfl) ⟨_, hfr, _, _, rfl, RV_nil, rfl⟩
  ·refine E_cf n8 rfl ?_
   exact E_skip (thn_n (hk6 ([]) _ _ ⟨g8, (.slice none 0 0), hfr, rfl, rp1, rfl, q1, rfl, RV_nil, OS.nil⟩ h))
 ·rintro a9 aE oE ⟨sD, yA, hfr, d9, k9, aB, dB, iB, lB, mB⟩ h
  obtain ⟨i7, hx, h⟩ := bsome h
  refine E_join (fun e w => ∃ (g : Gh) (v4 : Value), Fr gI wI g w ∧ e 4 = v4 ∧ RV g.m w (i7 : List Int) v4 ∧ OS 1004 g w 3 (i7 : List Int) v4) (fun Q' hQ => ?_) (fun bE rE hR => ?_)
  ·replace h := hx
   clear hx
   refine E_seq (E_region (EL_mv d9 rfl ?_))
   refine EL_p (.int .i64 ((x1).length : Int)) (P_len Tryd.underlying34 rfl k9) rfl ?_
   refine EL_mw (.int .i64 (0)) rfl rfl ?_
   refine EL_nil (thn_n (E_block ?_))
   refine E_lp h (fun (s : (List Int) × Int) e w => ∃ (g : Gh) (v4 : Value), Fr gI wI g w ∧ e 1 = up1 ∧ RV g.m w (x1 : List Int) up1 ∧ e 2 = p1 ∧ PT g.m w (x0 : TieHarness) p1 ∧ e 4 = v4 ∧ RV g.m w (s.1 : List Int) v4 ∧ OS 1004 g w 3 (s.1 : List Int) v4 ∧ e 15 = .int .i64 (((x1).length : Int)) ∧ e 16 = .int .i64 (s.2)) ⟨sD, (yA), hfr, d9, k9, aB, dB, iB, lB, mB, rfl, rfl⟩ (fun X32 uC iD => ?_)
   rintro ⟨y6, o0⟩ iE uE ⟨l9, n9, hfr, k8, u3, l8, l5, m8, t5, x5, m7, x6⟩ h
   refine E_seq (E_region (EL_in (.bool ((decide (o0 < ((x1).length : Int))))) x6 m7 rfl rfl ?_))
   refine EL_nil (thn_n (E_seq ?_))
   rcases csome h with ⟨r8, h⟩ | ⟨r8, h⟩
   ·refine E_ct r8 rfl ?_
    refine E_skip (thn_n ?_)
    obtain ⟨i6, hx, h⟩ := bsome h
    refine E_join (fun e w => ∃ (g : Gh) (v4 : Value), Fr gI wI g w ∧ e 1 = up1 ∧ RV g.m w (x1 : List Int) up1 ∧ e 2 = p1 ∧ PT g.m w (x0 : TieHarness) p1 ∧ e 4 = v4 ∧ RV g.m w (i6 : List Int) v4 ∧ OS 1004 g w 3 (i6 : List Int) v4 ∧ e 15 = .int .i64 (((x1).length : Int)) ∧ e 16 = .int .i64 (o0)) (fun Q' hQ => ?_) (fun lE vE hR => ?_)
    ·replace h := hx
     clear hx
     refine E_block ?_
     refine E_seq (E_region (EL_mv x6 rfl ?_))
     refine EL_at (.int .i64 (o0)) rfl rfl ?_
     refine EL_nil (thn_n (E_seq (E_region (EL_do .plain rfl (D_load (g := l9) Tryd.isAgg52 Tryd.sizeOf52 l8 l5 fun bA aD => ?_)))))
     refine EL_mv k8 rfl ?_
     have bD : RV l9.m _ (⟨x0, x1⟩ : EyeBoard) (.agg (setCh [[.int .i64 0, .slice none 0 0], [.slice none 0 0]] [(0, bA), (1, up1)]).flatten.toArray) := RV_build rfl (rep_pair (RV.cells aD) (rep_last (RV.cells u3)))
     generalize jD : (Value.agg (setCh [[.int .i64 0, .slice none 0 0], [.slice none 0 0]] [(0, bA), (1, up1)]).flatten.toArray) = cD at bD
     refine EL_p cD (jD ▸ P_build (vs := [(0, bA), (1, up1)]) [[.int .i64 0, .slice none 0 0], [.slice none 0 0]] lay_152 rfl rfl (.cons rfl (.cons rfl .nil)) ⟨⟨_, rfl, cells_size aD⟩, ⟨⟨_, rfl, cells_size u3⟩, trivial⟩⟩) rfl ?_
     refine EL_mw (.int .i64 (o0)) rfl rfl ?_
     obtain ⟨z9, lD, h⟩ := bsome h
     refine EL_do .plain rfl (D_call (g := l9) (vs := [cD, .int .i64 (o0)]) en65 (.cons rfl (.cons rfl .nil)) (wk65 bD lD) fun eD mE xE hs hr => ?_)
     have hfr := hfr.ext hs
     have u3 := u3.ext hs
     have l5 := l5.ext hs
     have t5 := t5.ext hs
     have x5 := x5.ext hs
     subst hr
     refine EL_p (.bool (!z9)) (P_not rfl) rfl ?_
     refine EL_nil (thn_n ?_)
     rcases csome h with ⟨x8, h⟩ | ⟨x8, h⟩
     ·refine E_ct x8 rfl ?_
      refine E_region (EL_mv m8 rfl ?_)
      refine EL_mw (.int .i64 (o0)) rfl rfl ?_
      refine EL_do .plain rfl (D_buildSlice (g := eD) 3027 (xs := ([o0] : List Int)) (vs := [.int .i64 (o0)]) Tryd.underlying34 Tryd.sizeOf3 Tryd.zeroValue3 rfl rfl (.cons rfl .nil) (RVs.cons (RV_int.2 rfl) RVs.nil) rfl rfl fun tD yE zE hs o48 uD hxt hfl => ?_)
      have hfr := hfr.stp hs
      have u3 := u3.stp hs
      have l5 := l5.stp hs
      have t5 := t5.stp hs
      have x5 := x5.stp hs rfl
      obtain ⟨vC, nD, h⟩ := bsome h
      refine EL_do .plain rfl (D_append (g := tD) (i := 1004) Tryd.underlying34 info_3 rfl rfl x5 t5 rfl uD nD fun vD cF gD hs o49 xD _ => ?_)
      have hfr := hfr.stp hs
      have u3 := u3.stp hs
      have l5 := l5.stp hs
      refine EL_at gD rfl rfl ?_
      refine EL_nil (blk_n ?_)
      obtain rfl := sinj h
      exact hQ _ _ ⟨vD, (gD), hfr, k8, u3, l8, l5, rfl, xD, o49, m7, x6⟩
     ·refine E_cf x8 rfl ?_
      refine E_skip (blk_n ?_)
      obtain rfl := sinj h
      exact hQ _ _ ⟨eD, (n9), hfr, k8, u3, l8, l5, m8, t5, x5, m7, x6⟩
    ·clear hx
     obtain ⟨yD, nB, hfr, oB, tB, vB, yB, zB, cC, mC, iA, rA⟩ := hR
     refine E_region (EL_in (.int .i64 ((w64 (o0 + (1 : Int))))) rA rfl rfl rfl ?_)
     refine EL_mw (.int .i64 ((w64 (o0 + (1 : Int))))) rfl rfl ?_
     exact EL_nil (thn_n (iD (i6, (w64 (o0 + (1 : Int)))) _ _ ⟨yD, (nB), hfr, oB, tB, vB, yB, zB, cC, mC, iA, rfl⟩ h))
   ·refine E_cf r8 rfl ?_
    refine E_exit ?_
    refine thn_e ?_
    refine thn_e ?_
    refine blk_hit ?_
    obtain rfl := sinj h
    exact hQ _ _ ⟨l9, (n9), hfr, m8, t5, x5⟩
  ·clear hx
   obtain ⟨dF, u9, hfr, qC, rC, zD⟩ := hR
   refine E_seq (E_region (EL_mv qC rfl ?_))
   refine EL_at u9 rfl rfl ?_
   refine EL_at (.int .i64 (0)) rfl rfl ?_
   refine EL_nil (thn_n (E_ret ?_))
   obtain rfl := sinj h
   exact end2 rfl rfl (show _ = u9 from rfl) (show _ = .int .i64 (0) from rfl) ⟨_, hfr, _, _, rfl, rC, rfl⟩
end Go.Proofs.YtkfdjkkbnfohjaaDoor
