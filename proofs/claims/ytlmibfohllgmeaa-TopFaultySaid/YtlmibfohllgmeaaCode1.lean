import Derived.Test.YtlmibfohllgmeaaTypes
set_option maxRecDepth 8000
set_option maxHeartbeats 4000000
namespace Go.Proofs.Ytlmibfohllgmeaa
open Go.RowKit
theorem Hi : (Try.prog.info? 3).map (fun i => (i.zero, i.size, i.bytes)) = some (some (.int .i64 0), 1, 8) := by kernel_rfl
theorem lay_33 : Wu Try.prog 33 = some ([.int .i64 0, .slice none 0 0], [(0, 1), (1, 1)]) := by kernel_rfl
theorem Qq : Try.prog.follows .mixedOrders = true := by kernel_rfl
theorem Bp {P : Program} {e : Env} {ds : List Deferred} {w : World} {fn : Func} {R : Value → World → Prop} {t0 : Tmp} {v0 : Value} {y0 : TypeId} {a0 : Addr} (hres : fn.results = #[.cell t0 y0]) (hd : ds = []) (h0 : e t0 = .pointer (some a0)) (l0 : (loadVar y0 a0).run P w = .ok v0 w) (h : R v0 w) : Yo P fn R .ret e ds w :=
 ⟨hd, fun tmps ht => ⟨_, by simp [results, hres, ht, asAddr, h0, l0], h⟩⟩
theorem Ln : Wu Try.prog 64 = some ([.int .i64 0, .int .i64 0], [(0, 1), (1, 1)]) := by kernel_rfl
theorem Oy : Wu Try.prog 37 = some ([.slice none 0 0, .slice none 0 0, .int .i64 0, .int .i64 0], [(0, 1), (1, 1), (2, 1), (3, 1)]) := by kernel_rfl
theorem Mg : (Try.prog.info? 60).map (fun i => (i.zero, i.size, i.bytes)) = some (some (.agg #[.int .i64 0, .int .i64 0, .bool false]), 3, 24) := by kernel_rfl
theorem info_64 : (Try.prog.info? 64).map (fun i => (i.zero, i.size, i.bytes)) = some (some (.agg #[.int .i64 0, .int .i64 0]), 2, 16) := by kernel_rfl
theorem Ei : Wu Try.prog 51 = some ([.int .i64 0, .int .i64 0], [(0, 1), (1, 1)]) := by kernel_rfl
theorem Bw : Wu Try.prog 60 = some ([.int .i64 0, .int .i64 0, .bool false], [(0, 1), (1, 1), (2, 1)]) := by kernel_rfl
theorem lay_27 : Wu Try.prog 27 = some ([.int .i64 0, .slice none 0 0], [(0, 1), (1, 1)]) := by kernel_rfl
theorem Es : Wu Try.prog 46 = some ([.int .i64 0, .int .i64 0, .int .i64 0, .slice none 0 0, .int .i64 0], [(0, 1), (1, 1), (2, 1), (3, 1), (4, 1)]) := by kernel_rfl
theorem lay_66 : Wu Try.prog 66 = some ([.int .i64 0, .slice none 0 0, .int .i64 0], [(0, 2), (2, 1)]) := by kernel_rfl
theorem Rm {e : Env} {f : FuncId} {o0 : Operand} {l5 : Operand} {b0 : Value} {b1 : Value} (hb0 : ev e o0 = b0) (hb1 : ev e l5 = b1) : (Value.func (.func f) ((#[] : Array Operand).map (ev e)) ((#[o0, l5] : Array Operand).map (ev e))) = .func (.func f) #[] #[b0, b1] := by simp [hb0, hb1]
theorem Bj {e : Env} {f : FuncId} {o0 : Operand} {b0 : Value} (hb0 : ev e o0 = b0) : (Value.func (.func f) ((#[] : Array Operand).map (ev e)) ((#[o0] : Array Operand).map (ev e))) = .func (.func f) #[] #[b0] := by simp [hb0]
theorem Lj : Wu Try.prog 81 = some ([.slice none 0 0, .slice none 0 0, .int .i64 0, .int .i64 0], [(0, 4)]) := by kernel_rfl
theorem Rs : Uk Try.prog 3 (Value.int .i64) := Md Try.underlying3
theorem Wj : Pl Gi := Pl.of (Pl.prod Pl.int Pl.int)
theorem fl_116 : Try.prog.fieldsOf 116 = #[{ name := "at", type := 3, offset := 0, embedded := false, tag := "", pkgPath := "griffe/chain", byteOffset := 0 }, { name := "faults", type := 3, offset := 1, embedded := false, tag := "", pkgPath := "griffe/chain", byteOffset := 8 }] := by kernel_rfl
theorem eqd_116 : EqD Try.prog Gi 2 116 := EqD.struct rfl (by kernel_rfl) (by kernel_rfl) (by rw [fl_116]; exact (FEq.cons (by decide) (Ht).1 Try.isAgg3 Try.sizeOf3 (EqD.int Try.underlying3) (FEq.cons (by decide) (Hv).1 Try.isAgg3 Try.sizeOf3 (EqD.int Try.underlying3) FEq.nil))) (fun x y => by cases x; cases y; simp)
theorem ckd_116 : CkD Try.prog Gi 2 116 := CkD.struct rfl Try.underlying116 fun f hf => by
 simp only [List.mem_cons, List.not_mem_nil, or_false] at hf;rcases hf with rfl | rfl
 ·exact ⟨by decide, _, _, _, (Ht).1, Try.isAgg3, Try.sizeOf3, (CkD.int Try.underlying3)⟩
 ·exact ⟨by decide, _, _, _, (Hv).1, Try.isAgg3, Try.sizeOf3, (CkD.int Try.underlying3)⟩
theorem Dy : Uk Try.prog 116 (Je Wj) := Nz Wj (by rw [Try.underlying116]) rfl eqd_116 ckd_116 (by decide)
theorem Mh : Wu Try.prog 116 = some ([.int .i64 0, .int .i64 0], [(0, 1), (1, 1)]) := by kernel_rfl
theorem lay_119 : Wu Try.prog 119 = some ([.slice none 0 0, .slice none 0 0, .slice none 0 0, .int .i64 0], [(0, 4)]) := by kernel_rfl
theorem lay_157 : Wu Try.prog 157 = some ([.int .i64 0, .int .i64 0], [(0, 1), (1, 1)]) := by kernel_rfl
theorem Em : (Try.prog.info? 157).map (fun i => (i.zero, i.size, i.bytes)) = some (some (.agg #[.int .i64 0, .int .i64 0]), 2, 16) := by kernel_rfl
theorem Iq {e : Env} {f : FuncId} {o0 : Operand} {l5 : Operand} {t5 : Operand} {b0 : Value} {b1 : Value} {b2 : Value} (hb0 : ev e o0 = b0) (hb1 : ev e l5 = b1) (hb2 : ev e t5 = b2) : (Value.func (.func f) ((#[] : Array Operand).map (ev e)) ((#[o0, l5, t5] : Array Operand).map (ev e))) = .func (.func f) #[] #[b0, b1, b2] := by simp [hb0, hb1, hb2]
theorem Qy {P : Program} {e : Env} {ds : List Deferred} {w : World} {fn : Func} {R : Value → World → Prop} {t0 : Tmp} {v0 : Value} {y0 : TypeId} {a0 : Addr} {t1 : Tmp} {v1 : Value} (hres : fn.results = #[.cell t0 y0, .tmp t1]) (hd : ds = []) (h0 : e t0 = .pointer (some a0)) (l0 : (loadVar y0 a0).run P w = .ok v0 w) (h1 : e t1 = v1) (h : R (.tuple #[v0, v1]) w) : Yo P fn R .ret e ds w :=
 ⟨hd, fun tmps ht => ⟨_, by simp [results, hres, ht, asAddr, h0, l0, h1], h⟩⟩
theorem info_31 : (Try.prog.info? 31).map (fun i => (i.zero, i.size, i.bytes)) = some (some (.slice none 0 0), 1, 24) := by kernel_rfl
theorem lay_73 : Wu Try.prog 73 = some ([.int .i64 0, .slice none 0 0, .int .i64 0, .slice none 0 0], [(0, 3), (3, 1)]) := by kernel_rfl
theorem Ca : Wu Try.prog 94 = some ([.int .i64 0, .int .i64 0, .int .i64 0, .int .i64 0], [(0, 1), (1, 1), (2, 1), (3, 1)]) := by kernel_rfl
theorem lay_98 : Wu Try.prog 98 = some ([.slice none 0 0, .slice none 0 0, .slice none 0 0, .int .i64 0], [(0, 1), (1, 1), (2, 1), (3, 1)]) := by kernel_rfl
theorem Iw {b0 b1 b2 : Value} {B0 : Value → Prop} {B1 : Value → Prop} {B2 : Value → Prop} (h : ∃ c0 c1 c2 : Value, Value.tuple #[b0, b1, b2] = .tuple #[c0, c1, c2] ∧ B0 c0 ∧ B1 c1 ∧ B2 c2) : B0 b0 := by
 obtain ⟨c0, c1, c2, he, h0, h1, h2⟩ := h; simp at he; obtain ⟨rfl, rfl, rfl⟩ := he; exact h0
theorem tup2_0 {b0 b1 : Value} {B0 : Value → Prop} {B1 : Value → Prop} (h : ∃ c0 c1 : Value, Value.tuple #[b0, b1] = .tuple #[c0, c1] ∧ B0 c0 ∧ B1 c1) : B0 b0 := by
 obtain ⟨c0, c1, he, h0, h1⟩ := h; simp at he; obtain ⟨rfl, rfl⟩ := he; exact h0
theorem fl_51 : Try.prog.fieldsOf 51 = #[{ name := "Low", type := 3, offset := 0, embedded := false, tag := "", pkgPath := "", byteOffset := 0 }, { name := "High", type := 3, offset := 1, embedded := false, tag := "", pkgPath := "", byteOffset := 8 }] := by kernel_rfl
theorem Au : SEq (α := Kb) Try.prog 51 := by
 intro d x y w a b m wx m2 wy hx hy;obtain ⟨_, ⟨_, _, rfl, rfl, rfl⟩, rfl⟩ := hx;obtain ⟨_, ⟨_, _, rfl, rfl, rfl⟩, rfl⟩ := hy;refine (run_equalIn_struct w (d + 1) 51 _ _ (by kernel_rfl) (by kernel_rfl)).trans ?_;rw [fl_51];obtain ⟨x0, x1⟩ := x;obtain ⟨y0, y1⟩ := y;show (Op.eqFields (d + 1) #[.int .i64 (x0), .int .i64 (x1)] #[.int .i64 (y0), .int .i64 (y1)] _).run _ _ = _;have x0p : (part 3 #[.int .i64 (x0), .int .i64 (x1)] 0).run Try.prog w = .ok (.int .i64 (x0)) w := Bi Try.isAgg3 rfl;have x1p : (part 3 #[.int .i64 (x0), .int .i64 (x1)] 1).run Try.prog w = .ok (.int .i64 (x1)) w := Bi Try.isAgg3 rfl;have y0p : (part 3 #[.int .i64 (y0), .int .i64 (y1)] 0).run Try.prog w = .ok (.int .i64 (y0)) w := Bi Try.isAgg3 rfl;have y1p : (part 3 #[.int .i64 (y0), .int .i64 (y1)] 1).run Try.prog w = .ok (.int .i64 (y1)) w := Bi Try.isAgg3 rfl;simp only [Op.eqFields, Sem.run_bind, Sem.run_ite, Sem.run_pure, x0p, x1p, y0p, y1p, Result.andThen_ok, run_equalIn_int _ _ _ _ _ _ _ Try.underlying3];simp;grind
theorem Oh : Try.prog.eqGuardType Try.prog.depth 51 = false := by kernel_rfl
def f86 (x0 : List Int) : Option (List Int) := apnd 8 [] x0
theorem en86 : Enters Try.prog 86 := enters_of Try.func86 (by kernel_rfl) rfl
theorem wk86 {gI : Gh} {wI : World} {x0 : List Int} {up0 : Value} (rp0 : RV gI.m wI x0 up0) {r : List Int} (h : f86 x0 = some r) : Fn Try.prog 86 #[up0] gI wI (fun m w v => RV m w r v) := by
 unfold f86 at h;refine Gw Try.func86 rfl (Nat.le_of_ble_eq_true rfl) fun g0 hm hfr => ?_;have rp0 : RV g0.m wI x0 up0 := hm ▸ rp0;show E _ 8 none _ _ _ _ _;refine Zf (Za (Zg (.slice none 0 0) rfl rfl (Zb (Zd ?_))));refine Zf (Zf (Za (Zn up0 rfl rfl ?_)));obtain ⟨a, c, hv, hc, hrow⟩ := Km rp0;refine Zw (.bool a.isNone) (P_slnil Try.underlying31 (show ev _ _ = _ from hv)) rfl (Zb (Zd ?_))
 cases a with
 | none =>
  have hx : x0 = [] := by
   cases x0 with
   | nil => rfl
   | cons y ys => obtain ⟨b, off, hb, _⟩ := hrow (by simp); cases hb
  subst hx
  have hr : r = [] := by unfold apnd at h; split at h <;> simp at h; exact h
  subst hr;refine Tv rfl (Zf (Za ?_));refine Zg (.slice none 0 0) rfl rfl (Zb (Zd ?_));exact Gq (Tz (Qr rfl rfl (show _ = .slice none 0 0 from rfl) ⟨_, hfr, He⟩))
 | some a =>
  refine Tj rfl (Zu (Zd ?_));refine Zf (Za (Ze .plain rfl (Gl (g := g0) 1 (xs := ([] : List Int)) (vs := []) Try.underlying31 Try.sizeOf3 Try.zeroValue3 rfl rfl .nil RVs.nil rfl rfl fun g1 w1 v1 hs o1 r1 hxt hfl => ?_)));have hfr := hfr.stp hs;have rp0 := rp0.stp hs;refine Zn up0 rfl rfl ?_;refine Ze .plain rfl (Kg (g := g1) (i := 1) Try.underlying31 Hi rfl rfl o1 r1 rfl rp0 h fun g2 w2 v2 hs o2 r2 _ => ?_);have hfr := hfr.stp hs;refine Zg v2 rfl rfl (Zb (Zd ?_));exact Gq (Qr rfl rfl (show _ = v2 from rfl) ⟨_, hfr, r2⟩)
def f5 (x0 : UInt8) (x1 : List UInt16) : Option (Qp) :=
 (Yl ((x0).toNat : Int) (7 : Int)).bind fun y2 =>
 Option.bind (α := Qp) (
  lp (σ := Qp × Int) (fun eF (l5, o0) =>
   jn (σ := Unit) (fun _ =>
    Option.bind (α := Qp) (
     Option.bind (α := Int) (
      bif (decide (o0 < ((x1).length : Int))) then
       (idx x1 o0).bind fun zD =>
       (Sj (1 : Int) ((Qk (l5).Hooks))).bind fun xE =>
       (Yl ((zD).toNat : Int) xE).bind fun aE =>
       some (aE)
      else
       some ((1 : Int))
      ) fun lB =>
     (apnd 8 ((l5).Rows) (([lB] : List Int))).bind fun yE =>
     some ({ l5 with Rows := yE })
     ) fun mB =>
    eF (mB, (w64 (o0 + (1 : Int))))
    ) fun rF =>
   Option.bind (α := Bool) (
    bif (o0 == (0 : Int)) then
     some (true)
    else
     bif (decide (o0 < ((x1).length : Int))) then
      some ((decide (o0 < (12 : Int))))
     else
      some (false)
    ) fun v8 =>
   bif v8 then
    rF ()
   else
    some (l5)
   ) big ((⟨(w64 ((2 : Int) + y2)), []⟩ : Qp), (0 : Int))
  ) fun nB =>
 some (nB)
theorem en5 : Enters Try.prog 5 := enters_of Try.func5 (by kernel_rfl) rfl
theorem wk5 {gI : Gh} {wI : World} {x0 : UInt8} {x1 : List UInt16} {up1 : Value} (rp1 : RV gI.m wI x1 up1) {r : Qp} (h : f5 x0 x1 = some r) : Fn Try.prog 5 #[.int .u8 (UInt8.toNat (x0)), up1] gI wI (fun m w v => RV m w (r) v) := by
 unfold f5 at h;refine Gw Try.func5 rfl (Nat.le_of_ble_eq_true rfl) fun g0 hm hfr => ?_;have rp1 : RV g0.m wI x1 up1 := hm ▸ rp1;show E _ 48 none _ _ _ _ _;refine Zf (Za (Ze .plain rfl (Ti (g := g0) 2004 (⟨0, []⟩ : Qp) Try.zeroValue33 (fun m w => ⟨_, (Gv Zv Tr), rfl⟩) fun g1 w1 p1 hs b1 cb => ?_)));have hfr := hfr.stp hs;have rp1 := rp1.stp hs;have uC : OSF 2004 60401 1 g1 w1 3 33 ([] : List Int) p1 := cb.osf (by rfl);clear cb;refine Zb (Zd (Zf (Za (Zn (.int .u8 (UInt8.toNat (x0))) rfl rfl ?_))));refine Zw (.int .i64 (((x0).toNat : Int))) (Ys Try.underlying5 Try.underlying3 rfl) rfl ?_;obtain ⟨y2, hy2, h⟩ := Ga h;refine Zw (.int .i64 (y2)) (Gj rfl rfl (congrArg (Option.map (Value.int .i64)) hy2)) rfl ?_;refine Gg (.int .i64 ((w64 ((2 : Int) + y2)))) rfl rfl rfl rfl ?_;have r3 : RV g1.m w1 (⟨(w64 ((2 : Int) + y2)), []⟩ : Qp) (.agg (Qd [[.int .i64 0], [.slice none 0 0]] [(0, .int .i64 ((w64 ((2 : Int) + y2))))]).flatten.toArray) := Qj rfl (Te (rfl) (Qh (Tr)));generalize hv3 : (Value.agg (Qd [[.int .i64 0], [.slice none 0 0]] [(0, .int .i64 ((w64 ((2 : Int) + y2))))]).flatten.toArray) = v3 at r3;refine Zw v3 (hv3 ▸ Qu (vs := [(0, .int .i64 ((w64 ((2 : Int) + y2))))]) [[.int .i64 0], [.slice none 0 0]] lay_33 rfl rfl (.cons rfl .nil) ⟨⟨_, rfl, rfl⟩, trivial⟩) rfl ?_;refine Ze .plain rfl (Ti (g := g1) 2005 (⟨0, []⟩ : Qp) Try.zeroValue33 (fun m w => ⟨_, (Gv Zv Tr), rfl⟩) fun g4 w4 p4 hs b4 cb => ?_);have hfr := hfr.stp hs;have rp1 := rp1.stp hs;have uC := uC.stp hs rfl;have b1 := b1.stp hs rfl;have r3 := r3.stp hs;have jJ : OSF 2005 60501 1 g4 w4 3 33 ([] : List Int) p4 := cb.osf (by rfl);clear cb;refine Ze .plain rfl (Gm (g := g4) (v := v3) Try.sizeOf33 rfl b4 rfl r3 fun g5 w5 hs b5 cb => ?_);have sH : OSF 2005 60501 1 g5 w5 3 33 ([] : List Int) p4 := cb.osf (by rw [← hv3]; rfl);clear cb;have hfr := hfr.stp hs;have rp1 := rp1.stp hs;have uC := uC.stp hs rfl;have b1 := b1.stp hs rfl;refine Zb (Zd ?_);obtain ⟨nB, hx, h⟩ := Ga h;refine Gp (fun e w => ∃ (g : Gh) , Fr gI wI g w ∧ e 4 = p1 ∧ OB 2004 g w 33 ((⟨0, []⟩ : Qp) : Qp) p1 ∧ OSF 2004 60401 1 g w 3 33 (((⟨0, []⟩ : Qp)).Rows) p1 ∧ e 5 = p4 ∧ OB 2005 g w 33 (nB : Qp) p4 ∧ OSF 2005 60501 1 g w 3 33 ((nB).Rows) p4) (fun Q' hQ => ?_) (fun lI kJ hR => ?_)
 ·replace h := hx
  clear hx;refine Zf (Za (Zg (.int .i64 (0)) rfl rfl ?_));refine Zb (Zd (Zr ?_));refine Wv h (fun (s : Qp × Int) e w => ∃ (g : Gh) , Fr gI wI g w ∧ e 1 = up1 ∧ RV g.m w (x1 : List UInt16) up1 ∧ e 4 = p1 ∧ OB 2004 g w 33 ((⟨0, []⟩ : Qp) : Qp) p1 ∧ OSF 2004 60401 1 g w 3 33 (((⟨0, []⟩ : Qp)).Rows) p1 ∧ e 5 = p4 ∧ OB 2005 g w 33 (s.1 : Qp) p4 ∧ OSF 2005 60501 1 g w 3 33 ((s.1).Rows) p4 ∧ e 6 = .int .i64 (s.2)) ⟨g5, hfr, rfl, rp1, rfl, b1, uC, rfl, b5, sH, rfl⟩ (fun X152 eF jH => ?_);rintro ⟨l5, o0⟩ mI lJ ⟨zE, hfr, oB, vB, vC, bD, u4_1_153, cD, lD, u5_1_153, l9⟩ h;refine Zq h (fun (s : Unit) e w => ∃ (g : Gh) , Fr gI wI g w ∧ e 1 = up1 ∧ RV g.m w (x1 : List UInt16) up1 ∧ e 4 = p1 ∧ OB 2004 g w 33 ((⟨0, []⟩ : Qp) : Qp) p1 ∧ OSF 2004 60401 1 g w 3 33 (((⟨0, []⟩ : Qp)).Rows) p1 ∧ e 5 = p4 ∧ OB 2005 g w 33 (l5 : Qp) p4 ∧ OSF 2005 60501 1 g w 3 33 ((l5).Rows) p4 ∧ e 6 = .int .i64 (o0)) (fun X160 rF kH h => ?_) ?_
  ·obtain ⟨v8, hx, h⟩ := Ga h
   refine Gp (fun e w => ∃ (g : Gh) , Fr gI wI g w ∧ e 1 = up1 ∧ RV g.m w (x1 : List UInt16) up1 ∧ e 4 = p1 ∧ OB 2004 g w 33 ((⟨0, []⟩ : Qp) : Qp) p1 ∧ OSF 2004 60401 1 g w 3 33 (((⟨0, []⟩ : Qp)).Rows) p1 ∧ e 5 = p4 ∧ OB 2005 g w 33 (l5 : Qp) p4 ∧ OSF 2005 60501 1 g w 3 33 ((l5).Rows) p4 ∧ e 6 = .int .i64 (o0) ∧ e 24 = .bool (v8)) (fun Q' hQ => ?_) (fun nI mJ hR => ?_)
   ·replace h := hx
    clear hx;refine Za (Zo l9 rfl ?_);refine Gg (.bool ((o0 == (0 : Int)))) rfl rfl rfl rfl ?_;refine Zn (.bool ((o0 == (0 : Int)))) rfl rfl ?_;rcases Zt h with ⟨t5, h⟩ | ⟨t5, h⟩
    ·refine Zy rfl rfl t5 rfl rfl ?_
     iterate 4 refine Zy rfl rfl t5 rfl rfl ?_
     refine Sv (.off rfl rfl) rfl ?_;refine Sv (.off rfl rfl) rfl ?_;refine Zy rfl rfl t5 rfl rfl ?_;refine Zw (.bool true) (Zl (b := (o0 == (0 : Int))) rfl (Tg t5 rfl)) rfl ?_;refine Zb ?_;obtain rfl := sinj h;exact hQ _ _ ⟨zE, hfr, oB, vB, vC, bD, u4_1_153, cD, lD, u5_1_153, l9, rfl⟩
    ·refine Zx (.int .i64 (o0)) (Zk l9) rfl rfl t5 rfl ?_
     refine Zx up1 (Zk oB) rfl rfl t5 rfl ?_;refine Zx (.int .i64 ((x1).length : Int)) (Tu Try.underlying22 rfl vB) rfl rfl t5 rfl ?_;refine Zx (.bool ((decide (o0 < ((x1).length : Int))))) (Gj rfl rfl rfl) rfl rfl t5 rfl ?_;refine Zx (.bool ((decide (o0 < ((x1).length : Int))))) (Zk rfl) rfl rfl t5 rfl ?_;rcases Zt h with ⟨aB, h⟩ | ⟨aB, h⟩
     ·refine Zx (.int .i64 (o0)) (Zk l9) rfl rfl aB rfl ?_
      refine Zx (.bool ((decide (o0 < (12 : Int))))) (Gj rfl rfl rfl) rfl rfl aB rfl ?_;refine Zx (.bool ((decide (o0 < (12 : Int))))) (Zl (b := (decide (o0 < ((x1).length : Int)))) rfl (Tg aB rfl)) rfl rfl t5 rfl ?_;refine Zw (.bool ((decide (o0 < (12 : Int))))) (Zl (b := (o0 == (0 : Int))) rfl (Tq t5 rfl)) rfl ?_;refine Zb ?_;obtain rfl := sinj h;exact hQ _ _ ⟨zE, hfr, oB, vB, vC, bD, u4_1_153, cD, lD, u5_1_153, l9, rfl⟩
     ·refine Zy rfl rfl aB rfl rfl ?_
      refine Zy rfl rfl aB rfl rfl ?_;refine Zx (.bool false) (Zl (b := (decide (o0 < ((x1).length : Int)))) rfl (Tq aB rfl)) rfl rfl t5 rfl ?_;refine Zw (.bool false) (Zl (b := (o0 == (0 : Int))) rfl (Tq t5 rfl)) rfl ?_;refine Zb ?_;obtain rfl := sinj h;exact hQ _ _ ⟨zE, hfr, oB, vB, vC, bD, u4_1_153, cD, lD, u5_1_153, l9, rfl⟩
   ·clear hx
    obtain ⟨sF, hfr, tF, uF, lE, mE, u4_1_165, oE, rE, u5_1_165, vF, yD⟩ := hR;rcases Zt h with ⟨bE, h⟩ | ⟨bE, h⟩
    ·refine Tv (Eq.trans (show ev _ _ = .bool (v8) from yD) (congrArg Value.bool bE)) ?_
     exact Zu (Zd (kH () _ _ ⟨sF, hfr, tF, uF, lE, mE, u4_1_165, oE, rE, u5_1_165, vF⟩ h))
    ·refine Tj (Eq.trans (show ev _ _ = .bool (v8) from yD) (congrArg Value.bool bE)) ?_
     refine Qc ?_;refine Tf ?_;refine Tf ?_;refine Tl ?_;obtain rfl := sinj h;exact hQ _ _ ⟨sF, hfr, lE, mE, u4_1_165, oE, rE, u5_1_165⟩
  ·rintro _ pI nJ ⟨xF, hfr, yB, g8, uE, zB, u4_1_167, nD, n9, u5_1_167, cC⟩ h
   obtain ⟨mB, hx, h⟩ := Ga h;refine Gp (fun e w => ∃ (g : Gh) , Fr gI wI g w ∧ e 1 = up1 ∧ RV g.m w (x1 : List UInt16) up1 ∧ e 4 = p1 ∧ OB 2004 g w 33 ((⟨0, []⟩ : Qp) : Qp) p1 ∧ OSF 2004 60401 1 g w 3 33 (((⟨0, []⟩ : Qp)).Rows) p1 ∧ e 5 = p4 ∧ OB 2005 g w 33 (mB : Qp) p4 ∧ OSF 2005 60501 1 g w 3 33 ((mB).Rows) p4 ∧ e 6 = .int .i64 (o0)) (fun Q' hQ => ?_) (fun qI oJ hR => ?_)
   ·replace h := hx
    clear hx;refine Zr ?_;refine Zf (Za (Zg (.int .i64 (1)) rfl rfl ?_));refine Zb (Zd ?_);obtain ⟨lB, hx, h⟩ := Ga h;refine Gp (fun e w => ∃ (g : Gh) , Fr gI wI g w ∧ e 1 = up1 ∧ RV g.m w (x1 : List UInt16) up1 ∧ e 4 = p1 ∧ OB 2004 g w 33 ((⟨0, []⟩ : Qp) : Qp) p1 ∧ OSF 2004 60401 1 g w 3 33 (((⟨0, []⟩ : Qp)).Rows) p1 ∧ e 5 = p4 ∧ OB 2005 g w 33 (l5 : Qp) p4 ∧ OSF 2005 60501 1 g w 3 33 ((l5).Rows) p4 ∧ e 6 = .int .i64 (o0) ∧ e 7 = .int .i64 (lB)) (fun Q' hQ => ?_) (fun sI pJ hR => ?_)
    ·replace h := hx
     clear hx;refine Zf (Za (Zo cC rfl ?_));refine Zo yB rfl ?_;refine Zw (.int .i64 ((x1).length : Int)) (Tu Try.underlying22 rfl g8) rfl ?_;refine Gg (.bool ((decide (o0 < ((x1).length : Int))))) rfl rfl rfl rfl ?_;refine Zb (Zd ?_);rcases Zt h with ⟨iE, h⟩ | ⟨iE, h⟩
     ·refine Tn iE rfl ?_
      obtain ⟨zD, dF, h⟩ := Ga h;have tH := Tp g8 dF;refine Zs (x := .tmp 33) Try.isAgg61 Try.sizeOf61 tH fun qJ uH lH => ?_;obtain rfl := RV_u16.1 uH;refine Ya (x := .tmp 36) Uh.1 Try.isAgg3 Try.sizeOf3 n9 fun rJ xH mH => ?_;obtain rfl := Zj.1 xH;obtain ⟨xE, nH, h⟩ := Ga h;obtain ⟨aE, oH, h⟩ := Ga h;refine Tx (g := xF) (n := 11) [] [0, 1, 2, 3, 4, 5, 6, 7, 8, 9, 10] rfl Qq (by kernel_rfl) trivial ?_;refine Zz up1 rfl rfl (Zk yB) ?_;refine Zz (.int .i64 (o0)) rfl rfl (Zk cC) ?_;refine Zz (Ty up1 o0 1) rfl rfl (Zh (α := UInt16) Try.underlying22 Try.sizeOf61 rfl g8 rfl dF) ?_;refine Tt (c := .int .u16 (UInt16.toNat (zD))) rfl rfl .plain (fun _ _ h => h.ch) lH rfl ?_;refine Zz (.int .i64 (((zD).toNat : Int))) rfl rfl (Ek Try.underlying61 Try.underlying3 rfl) ?_;refine Zz (Gk p4 0) rfl rfl (Zc Li nD (OB.ptr n9)) ?_;refine Tt (c := .int .i64 ((l5).Hooks)) rfl rfl .plain (fun _ _ h => ⟨h.ch, fun b hb _ => h.below.block b hb⟩) mH rfl ?_;refine Zz (.int .u64 (Qk (l5).Hooks)) rfl rfl (Jh Try.underlying3 Try.underlying62 rfl) ?_;refine Zz (.int .i64 (xE)) rfl rfl (P_shlu rfl rfl nH) ?_;refine Zz (.int .i64 (aE)) rfl rfl (Gj rfl rfl (congrArg (Option.map (Value.int .i64)) oH)) ?_;refine Zz (.int .i64 (aE)) rfl rfl (Tb rfl) ?_;refine Kr fun yH sJ hs => ?_;have hfr := hfr.ext hs;have g8 := g8.ext hs;have u4_1_167 := u4_1_167.ext hs;have zB := zB.ext hs;have u5_1_167 := u5_1_167.ext hs;have n9 := n9.ext hs;clear hs;refine Zb ?_;obtain rfl := sinj h;exact hQ _ _ ⟨yH, hfr, yB, g8, uE, zB, u4_1_167, nD, n9, u5_1_167, cC, rfl⟩
     ·refine To iE rfl ?_
      refine Zu ?_;obtain rfl := sinj h;exact hQ _ _ ⟨xF, hfr, yB, g8, uE, zB, u4_1_167, nD, n9, u5_1_167, cC, rfl⟩
    ·clear hx
     obtain ⟨yF, hfr, aG, l8, bG, n8, u4_1_288, oD, i6, u5_1_288, cG, eG⟩ := hR;refine Za (Zw (Gk p4 1) (Zc Xs oD (OB.ptr i6)) rfl ?_);refine Ze .plain rfl (Pz (g := yF) Hs.1 Try.isAgg31 Try.sizeOf31 rfl i6 u5_1_288 fun vJ cF o290 => ?_);refine Zo eG rfl ?_;refine Ze .plain rfl (Gl (g := yF) 3044 (xs := ([lB] : List Int)) (vs := [.int .i64 (lB)]) Try.underlying31 Try.sizeOf3 Try.zeroValue3 rfl rfl (.cons rfl .nil) (RVs.cons (Zj.2 rfl) RVs.nil) rfl rfl fun zH xJ zJ hs o291 aI hxt hfl => ?_);have hfr := hfr.stp hs;have l8 := l8.stp hs;have u4_1_288 := u4_1_288.stp hs rfl;have n8 := n8.stp hs rfl;have i6 := i6.stp hs rfl;have cF := cF.stp hs;have o290 := o290.stp hs rfl;obtain ⟨yE, pH, h⟩ := Ga h;refine Ze .plain rfl (Kg (g := zH) (i := 60501) Try.underlying31 Hi rfl rfl o290 cF rfl aI pH fun bI aK bK hs o292 gG _ => ?_);have hfr := hfr.stp hs;have l8 := l8.stp hs;have u4_1_288 := u4_1_288.stp hs rfl;have n8 := n8.stp hs rfl;have i6 := i6.stp hs rfl;refine Zw (Gk p4 1) (Zc Xs oD (OB.ptr i6)) rfl ?_;refine Ze .plain rfl (Jx (g := bI) Hs Try.sizeOf31 rfl i6 rfl gG fun dI cK hs b295 rst hos => ?_);have iG := hos _ _ 60501 3 (yE : List Int) (Yt gG) rfl o292;clear rst hos;have hfr := hfr.stp hs;have l8 := l8.stp hs;have u4_1_288 := u4_1_288.stp hs rfl;have n8 := n8.stp hs rfl;refine Zb (Ts ?_);obtain rfl := sinj h;exact hQ _ _ ⟨dI, hfr, aG, l8, bG, n8, u4_1_288, oD, b295, iG, cG⟩
   ·clear hx
    obtain ⟨iI, hfr, jG, kG, lG, mG, u4_1_296, sG, xG, u5_1_296, yG⟩ := hR;refine Za (Zo yG rfl ?_);refine Gg (.int .i64 ((w64 (o0 + (1 : Int))))) rfl rfl rfl rfl ?_;refine Zg (.int .i64 ((w64 (o0 + (1 : Int))))) rfl rfl ?_;exact Zb (Zd (jH (mB, (w64 (o0 + (1 : Int)))) _ _ ⟨iI, hfr, jG, kG, lG, mG, u4_1_296, sG, xG, u5_1_296, rfl⟩ h))
 ·clear hx
  obtain ⟨zG, hfr, vE, aH, u4_1_297, cH, gH, u5_1_297⟩ := hR;refine Zf (Za (Ze .plain rfl (Tk (g := zG) Try.isAgg33 Try.sizeOf33 cH gH fun jI kI => ?_)));refine Ze .plain rfl (Gm (g := zG) (v := jI) Try.sizeOf33 vE aH rfl kI fun dK lK hs b299 cb => ?_);clear cb;have hfr := hfr.stp hs;refine Zb (Zd (Gq ?_));obtain rfl := sinj h;obtain ⟨ad300, cv300, hp300, qH, cr300⟩ := Ql Try.isAgg33 Try.sizeOf33 b299;exact Bp rfl rfl ((show _ = p1 from vE).trans hp300) qH ⟨_, hfr, cr300⟩
def f6 (x0 : Vector UInt8 4) : Option (PayList) :=
 (idx (x0).toList (0 : Int)).bind fun y3 =>
 (idx (x0).toList (1 : Int)).bind fun y7 =>
 (Yl ((y7).toNat : Int) (60 : Int)).bind fun o0 =>
 (idx (x0).toList (0 : Int)).bind fun y11 =>
 (idx (x0).toList (2 : Int)).bind fun l5 =>
 (idx (x0).toList (3 : Int)).bind fun i6 =>
 (idx (x0).toList (1 : Int)).bind fun n8 =>
 (Yl (w64 ((4 : Int) * ((n8).toNat : Int))) (1001 : Int)).bind fun g8 =>
 some ((⟨([(⟨0, ((y3).toNat : Int)⟩ : Gr), (⟨(w64 ((1 : Int) + o0)), (w64 (((y11).toNat : Int) + ((l5).toNat : Int)))⟩ : Gr)] : List Gr), [], ((i6).toNat : Int), g8⟩ : PayList))
theorem en6 : Enters Try.prog 6 := enters_of Try.func6 (by kernel_rfl) rfl
theorem wk6 {gI : Gh} {wI : World} {x0 : Vector UInt8 4} {up0 : Value} (rp0 : RV gI.m wI x0 up0) {r : PayList} (h : f6 x0 = some r) : Fn Try.prog 6 #[up0] gI wI (fun m w v => RV m w (r) v) := by
 unfold f6 at h;refine Gw Try.func6 rfl (Nat.le_of_ble_eq_true rfl) fun g0 hm hfr => ?_;have rp0 : RV g0.m wI x0 up0 := hm ▸ rp0;show E _ 30 none _ _ _ _ _;refine Zf (Za (Ze .plain rfl (Qs (g := g0) rfl rp0 fun g1 w1 p1 hs q1 => ?_)));have hfr := hfr.ext hs;refine Ze .plain rfl (Ti (g := g1) 2002 (⟨[], [], 0, 0⟩ : PayList) Try.zeroValue37 (fun m w => ⟨_, (Gv Tr (Gv Tr (Gv Zv Zv))), rfl⟩) fun g2 w2 p2 hs b2 cb => ?_);have hfr := hfr.stp hs;have q1 := q1.stp hs;have dF : OSF 2002 60200 0 g2 w2 64 37 ([] : List Gr) p2 := cb.osf (by rfl);have eF : OSF 2002 60201 1 g2 w2 3 37 ([] : List Int) p2 := cb.osf (by rfl);clear cb;refine Zb (Zd (Zf (Za ?_)));obtain ⟨y3, hy3, h⟩ := Ga h;refine Zw (Gk p1 (((0 : Int) : Int).toNat * 1)) (Hm (α := UInt8) Try.underlying24 Try.sizeOf5 rfl (PT.ptr q1) rfl hy3) rfl ?_;have q4 := Uz q1 hy3;refine Ze .plain rfl (Gf (g := g2) Try.isAgg5 Try.sizeOf5 rfl q4 fun v5 r5 => ?_);obtain rfl := Dp.1 r5;refine Zw (.int .i64 (((y3).toNat : Int))) (Ys Try.underlying5 Try.underlying3 rfl) rfl ?_;have r6 : RV g2.m w2 (⟨0, ((y3).toNat : Int)⟩ : Gr) (.agg (Qd [[.int .i64 0], [.int .i64 0]] [(1, .int .i64 (((y3).toNat : Int)))]).flatten.toArray) := Qj rfl (Te (Zv) (Qh (rfl)));generalize yD : (Value.agg (Qd [[.int .i64 0], [.int .i64 0]] [(1, .int .i64 (((y3).toNat : Int)))]).flatten.toArray) = v6 at r6;refine Zw v6 (yD ▸ Qu (vs := [(1, .int .i64 (((y3).toNat : Int)))]) [[.int .i64 0], [.int .i64 0]] Ln rfl rfl (.cons rfl .nil) ⟨⟨_, rfl, rfl⟩, trivial⟩) rfl ?_;obtain ⟨y7, vB, h⟩ := Ga h;refine Zw (Gk p1 (((1 : Int) : Int).toNat * 1)) (Hm (α := UInt8) Try.underlying24 Try.sizeOf5 rfl (PT.ptr q1) rfl vB) rfl ?_;have q8 := Uz q1 vB;refine Ze .plain rfl (Gf (g := g2) Try.isAgg5 Try.sizeOf5 rfl q8 fun v9 r9 => ?_);obtain rfl := Dp.1 r9;refine Zw (.int .i64 (((y7).toNat : Int))) (Ys Try.underlying5 Try.underlying3 rfl) rfl ?_;obtain ⟨o0, cD, h⟩ := Ga h;refine Zw (.int .i64 (o0)) (Gj rfl rfl (congrArg (Option.map (Value.int .i64)) cD)) rfl ?_;refine Gg (.int .i64 ((w64 ((1 : Int) + o0)))) rfl rfl rfl rfl ?_;obtain ⟨y11, aB, h⟩ := Ga h;refine Zw (Gk p1 (((0 : Int) : Int).toNat * 1)) (Hm (α := UInt8) Try.underlying24 Try.sizeOf5 rfl (PT.ptr q1) rfl aB) rfl ?_;have zD := Uz q1 aB;refine Ze .plain rfl (Gf (g := g2) Try.isAgg5 Try.sizeOf5 rfl zD fun rF aE => ?_);obtain rfl := Dp.1 aE;refine Zw (.int .i64 (((y11).toNat : Int))) (Ys Try.underlying5 Try.underlying3 rfl) rfl ?_;obtain ⟨l5, lB, h⟩ := Ga h;refine Zw (Gk p1 (((2 : Int) : Int).toNat * 1)) (Hm (α := UInt8) Try.underlying24 Try.sizeOf5 rfl (PT.ptr q1) rfl lB) rfl ?_;have bE := Uz q1 lB;refine Ze .plain rfl (Gf (g := g2) Try.isAgg5 Try.sizeOf5 rfl bE fun sF iE => ?_);obtain rfl := Dp.1 iE;refine Zw (.int .i64 (((l5).toNat : Int))) (Ys Try.underlying5 Try.underlying3 rfl) rfl ?_;refine Gg (.int .i64 ((w64 (((y11).toNat : Int) + ((l5).toNat : Int))))) rfl rfl rfl rfl ?_;have yB : RV g2.m w2 (⟨(w64 ((1 : Int) + o0)), (w64 (((y11).toNat : Int) + ((l5).toNat : Int)))⟩ : Gr) (.agg (Qd [[.int .i64 0], [.int .i64 0]] [(0, .int .i64 ((w64 ((1 : Int) + o0)))), (1, .int .i64 ((w64 (((y11).toNat : Int) + ((l5).toNat : Int)))))]).flatten.toArray) := Qj rfl (Te (rfl) (Qh (rfl)));generalize lD : (Value.agg (Qd [[.int .i64 0], [.int .i64 0]] [(0, .int .i64 ((w64 ((1 : Int) + o0)))), (1, .int .i64 ((w64 (((y11).toNat : Int) + ((l5).toNat : Int)))))]).flatten.toArray) = zB at yB;refine Zw zB (lD ▸ Qu (vs := [(0, .int .i64 ((w64 ((1 : Int) + o0)))), (1, .int .i64 ((w64 (((y11).toNat : Int) + ((l5).toNat : Int)))))]) [[.int .i64 0], [.int .i64 0]] Ln rfl rfl (.cons rfl (.cons rfl .nil)) ⟨⟨_, rfl, rfl⟩, ⟨⟨_, rfl, rfl⟩, trivial⟩⟩) rfl ?_;refine Ze .plain rfl (Gl (g := g2) 3020 (xs := ([(⟨0, ((y3).toNat : Int)⟩ : Gr), (⟨(w64 ((1 : Int) + o0)), (w64 (((y11).toNat : Int) + ((l5).toNat : Int)))⟩ : Gr)] : List Gr)) (vs := [v6, zB]) Try.underlying35 Try.sizeOf64 Try.zeroValue64 rfl rfl (.cons rfl (.cons rfl .nil)) (RVs.cons r6 (RVs.cons yB RVs.nil)) rfl rfl fun v8 tF mB hs o18 l9 hxt hfl => ?_);have hfr := hfr.stp hs
 have q1 := q1.stp hs;have b2 := b2.stp hs rfl;obtain ⟨i6, nB, h⟩ := Ga h;refine Zw (Gk p1 (((3 : Int) : Int).toNat * 1)) (Hm (α := UInt8) Try.underlying24 Try.sizeOf5 rfl (PT.ptr q1) rfl nB) rfl ?_;have lE := Uz q1 nB;refine Ze .plain rfl (Gf (g := v8) Try.isAgg5 Try.sizeOf5 rfl lE fun uF mE => ?_);obtain rfl := Dp.1 mE;refine Zw (.int .i64 (((i6).toNat : Int))) (Ys Try.underlying5 Try.underlying3 rfl) rfl ?_;obtain ⟨n8, oB, h⟩ := Ga h;refine Zw (Gk p1 (((1 : Int) : Int).toNat * 1)) (Hm (α := UInt8) Try.underlying24 Try.sizeOf5 rfl (PT.ptr q1) rfl oB) rfl ?_;have oE := Uz q1 oB;refine Ze .plain rfl (Gf (g := v8) Try.isAgg5 Try.sizeOf5 rfl oE fun vF rE => ?_);obtain rfl := Dp.1 rE;refine Zw (.int .i64 (((n8).toNat : Int))) (Ys Try.underlying5 Try.underlying3 rfl) rfl ?_;refine Gg (.int .i64 ((w64 ((4 : Int) * ((n8).toNat : Int))))) rfl rfl rfl rfl ?_;obtain ⟨g8, nD, h⟩ := Ga h;refine Zw (.int .i64 (g8)) (Gj rfl rfl (congrArg (Option.map (Value.int .i64)) nD)) rfl ?_;have cC : RV v8.m _ (⟨([(⟨0, ((y3).toNat : Int)⟩ : Gr), (⟨(w64 ((1 : Int) + o0)), (w64 (((y11).toNat : Int) + ((l5).toNat : Int)))⟩ : Gr)] : List Gr), [], ((i6).toNat : Int), g8⟩ : PayList) (.agg (Qd [[.slice none 0 0], [.slice none 0 0], [.int .i64 0], [.int .i64 0]] [(0, mB), (2, .int .i64 (((i6).toNat : Int))), (3, .int .i64 (g8))]).flatten.toArray) := Qj rfl (Te (RV.cells l9) (Te (Tr) (Te (rfl) (Qh (rfl)))));generalize l8 : (Value.agg (Qd [[.slice none 0 0], [.slice none 0 0], [.int .i64 0], [.int .i64 0]] [(0, mB), (2, .int .i64 (((i6).toNat : Int))), (3, .int .i64 (g8))]).flatten.toArray) = uC at cC;obtain ⟨uE, vE, t5, _, _⟩ := Km l9;replace t5 := t5.symm;refine Zw uC (l8 ▸ Qu (vs := [(0, mB), (2, .int .i64 (((i6).toNat : Int))), (3, .int .i64 (g8))]) [[.slice none 0 0], [.slice none 0 0], [.int .i64 0], [.int .i64 0]] Oy rfl rfl (.cons rfl (.cons rfl (.cons rfl .nil))) ⟨⟨_, rfl, Qt l9⟩, ⟨⟨_, rfl, rfl⟩, ⟨⟨_, rfl, rfl⟩, trivial⟩⟩⟩) rfl ?_;refine Ze .plain rfl (Gm (g := v8) (v := uC) Try.sizeOf37 rfl b2 rfl cC fun vC bD hs b27 cb => ?_);have zE : OSF 2002 60201 1 vC bD 3 37 ([] : List Int) p2 := cb.osf (by rw [← l8, ← t5]; rfl);obtain ⟨xE, yE, n9, _, _⟩ := Km l9;have cF : OSF 2002 3020 0 vC bD 64 37 (([(⟨0, ((y3).toNat : Int)⟩ : Gr), (⟨(w64 ((1 : Int) + o0)), (w64 (((y11).toNat : Int) + ((l5).toNat : Int)))⟩ : Gr)] : List Gr) : List Gr) p2 := cb.osfv (by rw [← l8, n9]; rfl) (o18.stp hs rfl);clear cb;have hfr := hfr.stp hs;refine Zb (Zd (Gq ?_));obtain rfl := sinj h;obtain ⟨ad28, cv28, hp28, oD, cr28⟩ := Ql Try.isAgg37 Try.sizeOf37 b27;exact Bp rfl rfl ((show _ = p2 from rfl).trans hp28) oD ⟨_, hfr, cr28⟩
def f8 (x0 : ChainBelt) : Option (ChainBelt) :=
 (apnd 24 (([] : List Gc)) ((x0).Cards)).bind fun y7 =>
 some ({ x0 with Cards := y7 })
theorem en8 : Enters Try.prog 8 := enters_of Try.func8 (by kernel_rfl) rfl
theorem wk8 {gI : Gh} {wI : World} {x0 : ChainBelt} {up0 : Value} (rp0 : RV gI.m wI x0 up0) {r : ChainBelt} (h : f8 x0 = some r) : Fn Try.prog 8 #[up0] gI wI (fun m w v => RV m w (r) v) := by
 unfold f8 at h;refine Gw Try.func8 rfl (Nat.le_of_ble_eq_true rfl) fun g0 hm hfr => ?_;have rp0 : RV g0.m wI x0 up0 := hm ▸ rp0;show E _ 9 none _ _ _ _ _;refine Zf (Za (Ze .plain rfl (Eo (g := g0) 2001 rfl rp0 fun g1 w1 p1 hs b1 => ?_)));have hfr := hfr.stp hs;refine Ze .plain rfl (Ti (g := g1) 2002 (⟨0, []⟩ : ChainBelt) Try.zeroValue27 (fun m w => ⟨_, (Gv Zv Tr), rfl⟩) fun g2 w2 p2 hs b2 cb => ?_);have hfr := hfr.stp hs;have b1 := b1.stp hs rfl;have i6 : OSF 2002 60201 1 g2 w2 60 27 ([] : List Gc) p2 := cb.osf (by rfl);clear cb;refine Zb (Zd (Zf (Za (Ze .plain rfl (Gl (g := g2) 3003 (xs := ([] : List Gc)) (vs := []) Try.underlying25 Try.sizeOf60 Try.zeroValue60 rfl rfl .nil RVs.nil rfl rfl fun g3 w3 v3 hs o3 r3 hxt hfl => ?_)))));have hfr := hfr.stp hs;have b1 := b1.stp hs rfl;have b2 := b2.stp hs rfl;refine Zw (Gk p1 1) (Zc Wm rfl (OB.ptr b1)) rfl ?_;refine Ze .plain rfl (Wz (g := g3) Tc.1 Try.isAgg25 Try.sizeOf25 rfl b1 fun v5 r5 => ?_);obtain ⟨y7, o0, h⟩ := Ga h;refine Ze .plain rfl (Kg (g := g3) (i := 3003) Try.underlying25 Mg rfl rfl o3 r3 rfl r5 o0 fun g6 w6 v6 hs o6 r6 _ => ?_);have hfr := hfr.stp hs;have b1 := b1.stp hs rfl;have b2 := b2.stp hs rfl;refine Zw (Gk p1 1) (Zc Wm rfl (OB.ptr b1)) rfl ?_;refine Ze .plain rfl (Jx (g := g6) Tc Try.sizeOf25 rfl b1 rfl r6 fun g9 w9 hs b9 rst hos => ?_);have g8 := hos _ _ 3003 60 (y7 : List Gc) (Yt r6) rfl o6;clear rst hos;have hfr := hfr.stp hs;have b2 := b2.stp hs rfl;refine Zb (Zd (Zf (Za (Ze .plain rfl (Tk (g := g9) Try.isAgg27 Try.sizeOf27 rfl b9 fun l5 t5 => ?_)))));refine Ze .plain rfl (Gm (g := g9) (v := l5) Try.sizeOf27 rfl b2 rfl t5 fun l8 n8 hs b11 cb => ?_);clear cb;have hfr := hfr.stp hs;refine Zb (Zd (Gq ?_));obtain rfl := sinj h;obtain ⟨ad12, cv12, hp12, hl12, cr12⟩ := Ql Try.isAgg27 Try.sizeOf27 b11;exact Bp rfl rfl ((show _ = p2 from rfl).trans hp12) hl12 ⟨_, hfr, cr12⟩
def f9 (x0 : List Int) : Option ((List Int)) :=
 (apnd 8 (([] : List Int)) x0).bind fun y3 =>
 some (y3)
theorem en9 : Enters Try.prog 9 := enters_of Try.func9 (by kernel_rfl) rfl
theorem wk9 {gI : Gh} {wI : World} {x0 : List Int} {up0 : Value} (rp0 : RV gI.m wI x0 up0) {r : (List Int)} (h : f9 x0 = some r) : Fn Try.prog 9 #[up0] gI wI (fun m w v => RV m w (r) v) := by
 unfold f9 at h;refine Gw Try.func9 rfl (Nat.le_of_ble_eq_true rfl) fun g0 hm hfr => ?_;have rp0 : RV g0.m wI x0 up0 := hm ▸ rp0;show E _ 6 none _ _ _ _ _;refine Zf (Za (Zg (.slice none 0 0) rfl rfl ?_));refine Zb (Zd (Zf (Za (Ze .plain rfl (Gl (g := g0) 3003 (xs := ([] : List Int)) (vs := []) Try.underlying31 Try.sizeOf3 Try.zeroValue3 rfl rfl .nil RVs.nil rfl rfl fun g1 w1 v1 hs o1 r1 hxt hfl => ?_)))));have hfr := hfr.stp hs;have rp0 := rp0.stp hs;refine Zn up0 rfl rfl ?_;obtain ⟨y3, hy3, h⟩ := Ga h;refine Ze .plain rfl (Kg (g := g1) (i := 3003) Try.underlying31 Hi rfl rfl o1 r1 rfl rp0 hy3 fun g2 w2 v2 hs o2 r2 _ => ?_);have hfr := hfr.stp hs;refine Zg v2 rfl rfl ?_;refine Zb (Zd (Gq ?_));obtain rfl := sinj h;exact Qr rfl rfl (show _ = v2 from rfl) ⟨_, hfr, r2⟩
def f12 (x0 : PayList) : Option (PayList) :=
 (apnd 16 (([] : List Gr)) ((x0).Rates)).bind fun y7 =>
 (apnd 8 (([] : List Int)) ((x0).Extras)).bind fun o0 =>
 some ({ { x0 with Rates := y7 } with Extras := o0 })
theorem en12 : Enters Try.prog 12 := enters_of Try.func12 (by kernel_rfl) rfl
theorem wk12 {gI : Gh} {wI : World} {x0 : PayList} {up0 : Value} (rp0 : RV gI.m wI x0 up0) {r : PayList} (h : f12 x0 = some r) : Fn Try.prog 12 #[up0] gI wI (fun m w v => RV m w (r) v) := by
 unfold f12 at h;refine Gw Try.func12 rfl (Nat.le_of_ble_eq_true rfl) fun g0 hm hfr => ?_;have rp0 : RV g0.m wI x0 up0 := hm ▸ rp0;show E _ 14 none _ _ _ _ _;refine Zf (Za (Ze .plain rfl (Eo (g := g0) 2001 rfl rp0 fun g1 w1 p1 hs b1 => ?_)));have hfr := hfr.stp hs;refine Ze .plain rfl (Ti (g := g1) 2002 (⟨[], [], 0, 0⟩ : PayList) Try.zeroValue37 (fun m w => ⟨_, (Gv Tr (Gv Tr (Gv Zv Zv))), rfl⟩) fun g2 w2 p2 hs b2 cb => ?_);have hfr := hfr.stp hs;have b1 := b1.stp hs rfl;have uC : OSF 2002 60200 0 g2 w2 64 37 ([] : List Gr) p2 := cb.osf (by rfl);have vC : OSF 2002 60201 1 g2 w2 3 37 ([] : List Int) p2 := cb.osf (by rfl);clear cb;refine Zb (Zd (Zf (Ya (x := .tmp 4) Kf.1 Try.isAgg35 Try.sizeOf35 b1 fun v5 r5 aB => ?_)));obtain ⟨y7, lB, h⟩ := Ga h;refine Ya (x := .tmp 8) Hg.1 Try.isAgg31 Try.sizeOf31 b1 fun mB nB n8 => ?_;obtain ⟨o0, l9, h⟩ := Ga h;refine Tx (g := g2) (n := 9) [(0, (fun v g w => RV g.m w ([] : List Gr) v ∧ OS 3003 g w 64 ([] : List Gr) v ∧ Hj v)), (3, (fun v g w => RV g.m w y7 v ∧ OS 3003 g w 64 y7 v)), (4, (fun v g w => RV g.m w ([] : List Int) v ∧ OS 3007 g w 3 ([] : List Int) v ∧ Hj v)), (7, (fun v g w => RV g.m w o0 v ∧ OS 3007 g w 3 o0 v))] [0, 1, 2, 3, 4, 5, 6, 7, 8] rfl Qq (by kernel_rfl) (⟨fun _ => Kj Ym (Kj Af (Wf _)), fun _ => Kj Ym Af, fun _ => Kj Ym (Kj Af (Wf _)), fun _ => Kj Ym Af, trivial⟩) ?_;refine Ka (φ := fun v g w => RV g.m w ([] : List Gr) v ∧ OS 3003 g w 64 ([] : List Gr) v ∧ Hj v) rfl rfl .plain (fun g w hd => Gl (g := g) 3003 (xs := ([] : List Gr)) (vs := []) Try.underlying35 Try.sizeOf64 Try.zeroValue64 rfl rfl .nil RVs.nil rfl rfl fun g' w' v hs o r hxt hfl => ⟨g', hxt, r, o, hfl⟩) (fun v3 hv => ?_);clear hv;refine Zz (Gk p1 0) rfl rfl (Zc Vg rfl (OB.ptr b1)) ?_;refine Tt (c := v5) rfl rfl .plain (fun _ _ h => ⟨h.ch, fun b hb _ => h.below.block b hb⟩) aB rfl ?_;refine Ka (φ := fun v g w => RV g.m w y7 v ∧ OS 3003 g w 64 y7 v) rfl rfl .plain (fun g w hd => Kg (g := g) (i := 3003) Try.underlying35 info_64 rfl rfl (Xw (A := fun g w => RV g.m w ([] : List Gr) v3 ∧ OS 3003 g w 64 ([] : List Gr) v3 ∧ Hj v3) 0 rfl rfl (Hd hd)).2.1 (Xw (A := fun g w => RV g.m w ([] : List Gr) v3 ∧ OS 3003 g w 64 ([] : List Gr) v3 ∧ Hj v3) 0 rfl rfl (Hd hd)).1 rfl (r5.ext hd.1) lB fun g' w' v hs o r hf => ⟨g', hf (Xw (A := fun g w => RV g.m w ([] : List Gr) v3 ∧ OS 3003 g w 64 ([] : List Gr) v3 ∧ Hj v3) 0 rfl rfl (Hd hd)).2.2, r, o⟩) (fun v6 hv => ?_);clear hv;refine Ka (φ := fun v g w => RV g.m w ([] : List Int) v ∧ OS 3007 g w 3 ([] : List Int) v ∧ Hj v) rfl rfl .plain (fun g w hd => Gl (g := g) 3007 (xs := ([] : List Int)) (vs := []) Try.underlying31 Try.sizeOf3 Try.zeroValue3 rfl rfl .nil RVs.nil rfl rfl fun g' w' v hs o r hxt hfl => ⟨g', hxt, r, o, hfl⟩) (fun v8 hv => ?_);clear hv;refine Zz (Gk p1 1) rfl rfl (Zc Xq rfl (OB.ptr b1)) ?_;refine Tt (c := mB) rfl rfl .plain (fun _ _ h => ⟨h.ch, fun b hb _ => h.below.block b hb⟩) n8 rfl ?_;refine Ka (φ := fun v g w => RV g.m w o0 v ∧ OS 3007 g w 3 o0 v) rfl rfl .plain (fun g w hd => Kg (g := g) (i := 3007) Try.underlying31 Hi rfl rfl (Xw (A := fun g w => RV g.m w ([] : List Int) v8 ∧ OS 3007 g w 3 ([] : List Int) v8 ∧ Hj v8) 4 rfl rfl (Hd hd)).2.1 (Xw (A := fun g w => RV g.m w ([] : List Int) v8 ∧ OS 3007 g w 3 ([] : List Int) v8 ∧ Hj v8) 4 rfl rfl (Hd hd)).1 rfl (nB.ext hd.1) l9 fun g' w' v hs o r hf => ⟨g', hf (Xw (A := fun g w => RV g.m w ([] : List Int) v8 ∧ OS 3007 g w 3 ([] : List Int) v8 ∧ Hj v8) 4 rfl rfl (Hd hd)).2.2, r, o⟩) (fun l5 hv => ?_);clear hv;refine Zz (Gk p1 0) rfl rfl (Zc Vg rfl (OB.ptr b1)) ?_;refine Um fun oB bD hall => ?_;have hs := hall.1;have hfr := hfr.ext hs;have b1 := b1.ext hs;have b2 := b2.ext hs;have cD := (Qm (A := fun g w => RV g.m w ([] : List Gr) v3 ∧ OS 3003 g w 64 ([] : List Gr) v3 ∧ Hj v3) 0 rfl hall).1;have o18 := (Qm (A := fun g w => RV g.m w ([] : List Gr) v3 ∧ OS 3003 g w 64 ([] : List Gr) v3 ∧ Hj v3) 0 rfl hall).2.1;have g8 := (Qm (A := fun g w => RV g.m w y7 v6 ∧ OS 3003 g w 64 y7 v6) 3 rfl hall).1;have o21 := (Qm (A := fun g w => RV g.m w y7 v6 ∧ OS 3003 g w 64 y7 v6) 3 rfl hall).2
 have lD := (Qm (A := fun g w => RV g.m w ([] : List Int) v8 ∧ OS 3007 g w 3 ([] : List Int) v8 ∧ Hj v8) 4 rfl hall).1;have o22 := (Qm (A := fun g w => RV g.m w ([] : List Int) v8 ∧ OS 3007 g w 3 ([] : List Int) v8 ∧ Hj v8) 4 rfl hall).2.1;have t5 := (Qm (A := fun g w => RV g.m w o0 l5 ∧ OS 3007 g w 3 o0 l5) 7 rfl hall).1;have o25 := (Qm (A := fun g w => RV g.m w o0 l5 ∧ OS 3007 g w 3 o0 l5) 7 rfl hall).2;clear hs hall;refine Ze .plain rfl (Jx (g := oB) Kf Try.sizeOf35 rfl b1 rfl g8 fun vB nD hs b27 rst hos => ?_);have i6 := hos _ _ 3003 64 (y7 : List Gr) (Yt g8) rfl o21;clear rst hos;have hfr := hfr.stp hs;have b2 := b2.stp hs rfl;have t5 := t5.stp hs;have o25 := o25.stp hs rfl;refine Zw (Gk p1 1) (Zc Xq rfl (OB.ptr b27)) rfl ?_;refine Ze .plain rfl (Jx (g := vB) Hg Try.sizeOf31 rfl b27 rfl t5 fun l8 w29 hs b29 rst hos => ?_);have i6 := i6.rest hs rst;have cC := hos _ _ 3007 3 (o0 : List Int) (Yt t5) rfl o25;clear rst hos;have hfr := hfr.stp hs;have b2 := b2.stp hs rfl;refine Zb (Zd (Zf (Za (Ze .plain rfl (Tk (g := l8) Try.isAgg37 Try.sizeOf37 rfl b29 fun yB zB => ?_)))));refine Ze .plain rfl (Gm (g := l8) (v := yB) Try.sizeOf37 rfl b2 rfl zB fun oD yD hs b31 cb => ?_);clear cb;have hfr := hfr.stp hs;refine Zb (Zd (Gq ?_));obtain rfl := sinj h;obtain ⟨ad32, cv32, hp32, n9, cr32⟩ := Ql Try.isAgg37 Try.sizeOf37 b31;exact Bp rfl rfl ((show _ = p2 from rfl).trans hp32) n9 ⟨_, hfr, cr32⟩
def f14 (x0 : Int) (x1 : Int) : Option (Kb) :=
 some ((⟨x0, x1⟩ : Kb))
theorem en14 : Enters Try.prog 14 := enters_of Try.func14 (by kernel_rfl) rfl
theorem wk14 {gI : Gh} {wI : World} {x0 : Int} {x1 : Int}  {r : Kb} (h : f14 x0 x1 = some r) : Fn Try.prog 14 #[.int .i64 (x0), .int .i64 (x1)] gI wI (fun m w v => RV m w (r) v) := by
 unfold f14 at h;refine Gw Try.func14 rfl (Nat.le_of_ble_eq_true rfl) fun g0 hm hfr => ?_;show E _ 8 none _ _ _ _ _;refine Zf (Za (Ze .plain rfl (Ti (g := g0) 2004 (⟨0, 0⟩ : Kb) Try.zeroValue51 (fun m w => ⟨_, (Gv Zv Zv), rfl⟩) fun g1 w1 p1 hs b1 cb => ?_)));have hfr := hfr.stp hs;clear cb;refine Zb (Zd (Zf (Za (Zn (.int .i64 (x0)) rfl rfl ?_))));refine Zn (.int .i64 (x1)) rfl rfl ?_;have r2 : RV g1.m w1 (⟨x0, x1⟩ : Kb) (.agg (Qd [[.int .i64 0], [.int .i64 0]] [(0, .int .i64 (x0)), (1, .int .i64 (x1))]).flatten.toArray) := Qj rfl (Te (rfl) (Qh (rfl)));generalize hv2 : (Value.agg (Qd [[.int .i64 0], [.int .i64 0]] [(0, .int .i64 (x0)), (1, .int .i64 (x1))]).flatten.toArray) = v2 at r2;refine Zw v2 (hv2 ▸ Qu (vs := [(0, .int .i64 (x0)), (1, .int .i64 (x1))]) [[.int .i64 0], [.int .i64 0]] Ei rfl rfl (.cons rfl (.cons rfl .nil)) ⟨⟨_, rfl, rfl⟩, ⟨⟨_, rfl, rfl⟩, trivial⟩⟩) rfl ?_;refine Ze .plain rfl (Gm (g := g1) (v := v2) Try.sizeOf51 rfl b1 rfl r2 fun g3 w3 hs b3 cb => ?_);clear cb;have hfr := hfr.stp hs;refine Zb (Zd (Gq ?_));obtain rfl := sinj h;obtain ⟨ad4, cv4, hp4, o0, cr4⟩ := Ql Try.isAgg51 Try.sizeOf51 b3;exact Bp rfl rfl ((show _ = p1 from rfl).trans hp4) o0 ⟨_, hfr, cr4⟩
def f22 (x0 : Gb) (x1 : Int) (x2 : Int) : Option (Int) :=
 (Yl (w64 (x1 + x2)) ((((x0).ChainBelt).Cards).length : Int)).bind fun y5 =>
 some (y5)
theorem en22 : Enters Try.prog 22 := enters_of Try.func22 (by kernel_rfl) rfl
theorem wk22 {gI : Gh} {wI : World} {x0 : Gb} {x1 : Int} {x2 : Int} {up0 : Value} (rp0 : RV gI.m wI x0 up0) {r : Int} (h : f22 x0 x1 x2 = some r) : Fn Try.prog 22 #[up0, .int .i64 (x1), .int .i64 (x2)] gI wI (fun _ _ v => v = .int .i64 (r)) := by
 unfold f22 at h;refine Gw Try.func22 rfl (Nat.le_of_ble_eq_true rfl) fun g0 hm hfr => ?_;have rp0 : RV g0.m wI x0 up0 := hm ▸ rp0;show E _ 15 none _ _ _ _ _;refine Zf (Za (Ze .plain rfl (Qs (g := g0) rfl rp0 fun g1 w1 p1 hs q1 => ?_)));have hfr := hfr.ext hs;refine Zg (.int .i64 (0)) rfl rfl ?_;refine Zb (Zd (Zf (Za (Zn (.int .i64 (x1)) rfl rfl ?_))));refine Zn (.int .i64 (x2)) rfl rfl ?_;refine Gg (.int .i64 ((w64 (x1 + x2)))) rfl rfl rfl rfl ?_;refine Zw (Gk p1 0) (Zc Jr rfl (PT.ptr q1)) rfl ?_;have q2 := Zm (Qe).1 q1;refine Zw (Gk (Gk p1 0) 1) (Zc Wm rfl (PT.ptr q2)) rfl ?_;have q3 := Zm (Tc).1 q2;refine Ze .plain rfl (Gf (g := g1) Try.isAgg25 Try.sizeOf25 rfl q3 fun v4 r4 => ?_);refine Zw (.int .i64 ((((x0).ChainBelt).Cards).length : Int)) (Tu Try.underlying25 rfl r4) rfl ?_;obtain ⟨y5, hy5, h⟩ := Ga h;refine Zw (.int .i64 (y5)) (Gj rfl rfl (congrArg (Option.map (Value.int .i64)) hy5)) rfl ?_;refine Zg (.int .i64 (y5)) rfl rfl ?_;refine Zb (Zd (Gq ?_));obtain rfl := sinj h;exact Qr rfl rfl (show _ = .int .i64 (y5) from rfl) ⟨_, hfr, rfl⟩
def f25 (x0 : List Int) : Option (Int) :=
 Option.bind (α := Unit) (
  bif (decide (((x0).length : Int) < (1 : Int))) then
   none
  else
   some ()
  ) fun (_ : Unit) =>
 (idx x0 (0 : Int)).bind fun y4 =>
 Option.bind (α := Int) (
  lp (σ := Int × Int) (fun cD (l5, o0) =>
   jn (σ := Unit) (fun _ =>
    Option.bind (α := Int) (
     (idx x0 o0).bind fun v8 =>
     some ((Ha l5 v8))
     ) fun i6 =>
    cD (i6, (w64 (o0 + (1 : Int))))
    ) fun lD =>
   bif (decide (o0 < ((x0).length : Int))) then
    lD ()
   else
    some (l5)
   ) big (y4, (1 : Int))
  ) fun t5 =>
 some (t5)
theorem en25 : Enters Try.prog 25 := enters_of Try.func25 (by kernel_rfl) rfl
theorem wk25 {gI : Gh} {wI : World} {x0 : List Int} {up0 : Value} (rp0 : RV gI.m wI x0 up0) {r : Int} (h : f25 x0 = some r) : Fn Try.prog 25 #[up0] gI wI (fun _ _ v => v = .int .i64 (r)) := by
 unfold f25 at h;refine Gw Try.func25 rfl (Nat.le_of_ble_eq_true rfl) fun g0 hm hfr => ?_;have rp0 : RV g0.m wI x0 up0 := hm ▸ rp0;show E _ 25 none _ _ _ _ _;refine Zf (Za (Zg (.int .i64 (0)) rfl rfl ?_));refine Zb (Zd ?_);obtain ⟨_, hx, h⟩ := Ga h;refine Gp (fun e w => ∃ (g : Gh) , Fr gI wI g w ∧ e 0 = up0 ∧ RV g.m w (x0 : List Int) up0) (fun Q' hQ => ?_) (fun vE w3 hR => ?_)
 ·replace h := hx
  clear hx;refine Zf (Za (Zn up0 rfl rfl ?_));refine Zw (.int .i64 ((x0).length : Int)) (Tu Try.underlying31 rfl rp0) rfl ?_;refine Gg (.bool ((decide (((x0).length : Int) < (1 : Int))))) rfl rfl rfl rfl ?_;refine Zb (Zd ?_);rcases Zt h with ⟨hc2, h⟩ | ⟨hc2, h⟩
  ·refine Tn hc2 rfl ?_
   refine Za ?_
   cases h
  ·refine To hc2 rfl ?_
   refine Zu ?_;obtain rfl := sinj h;exact hQ _ _ ⟨g0, hfr, rfl, rp0⟩
 ·clear hx
  obtain ⟨g3, hfr, oB, l8⟩ := hR;refine Zf (Za (Zo oB rfl ?_));obtain ⟨y4, nD, h⟩ := Ga h;refine Zw (Ty up0 (0 : Int) 1) (Zh (α := Int) Try.underlying31 Try.sizeOf3 rfl l8 rfl nD) rfl ?_;have q5 := Tp l8 nD;refine Ze .plain rfl (Gf (g := g3) Try.isAgg3 Try.sizeOf3 rfl q5 fun v6 r6 => ?_);obtain rfl := Zj.1 r6;refine Zg (.int .i64 (y4)) rfl rfl ?_;refine Zb (Zd ?_);obtain ⟨t5, hx, h⟩ := Ga h;refine Gp (fun e w => ∃ (g : Gh) , Fr gI wI g w ∧ e 3 = .int .i64 (t5)) (fun Q' hQ => ?_) (fun mE xE hR => ?_)
  ·replace h := hx
   clear hx;refine Zf (Za (Zg (.int .i64 (1)) rfl rfl ?_));refine Zb (Zd (Zr ?_));refine Wv h (fun (s : Int × Int) e w => ∃ (g : Gh) , Fr gI wI g w ∧ e 0 = up0 ∧ RV g.m w (x0 : List Int) up0 ∧ e 3 = .int .i64 (s.1) ∧ e 4 = .int .i64 (s.2)) ⟨g3, hfr, oB, l8, rfl, rfl⟩ (fun X20 cD zD => ?_);rintro ⟨l5, o0⟩ oE yE ⟨oD, hfr, l9, n9, aB, lB⟩ h;refine Zq h (fun (s : Unit) e w => ∃ (g : Gh) , Fr gI wI g w ∧ e 0 = up0 ∧ RV g.m w (x0 : List Int) up0 ∧ e 3 = .int .i64 (l5) ∧ e 4 = .int .i64 (o0)) (fun X23 lD aE h => ?_) ?_
   ·refine Zf (Za (Zo lB rfl ?_))
    refine Zo l9 rfl ?_;refine Zw (.int .i64 ((x0).length : Int)) (Tu Try.underlying31 rfl n9) rfl ?_;refine Gg (.bool ((decide (o0 < ((x0).length : Int))))) rfl rfl rfl rfl ?_;refine Zb (Zd ?_);rcases Zt h with ⟨n8, h⟩ | ⟨n8, h⟩
    ·refine Tn n8 rfl ?_
     exact Zu (Zd (aE () _ _ ⟨oD, hfr, l9, n9, aB, lB⟩ h))
    ·refine To n8 rfl ?_
     refine Qc ?_;refine Tf ?_;refine Tf ?_;refine Tl ?_;obtain rfl := sinj h;exact hQ _ _ ⟨oD, hfr, aB⟩
   ·rintro _ rE zE ⟨yD, hfr, mB, g8, yB, nB⟩ h
    obtain ⟨i6, hx, h⟩ := Ga h;refine Gp (fun e w => ∃ (g : Gh) , Fr gI wI g w ∧ e 0 = up0 ∧ RV g.m w (x0 : List Int) up0 ∧ e 3 = .int .i64 (i6) ∧ e 4 = .int .i64 (o0)) (fun Q' hQ => ?_) (fun uE cF hR => ?_)
    ·replace h := hx
     clear hx;refine Zr ?_;refine Za (Zo yB rfl ?_);refine Zo mB rfl ?_;refine Zo nB rfl ?_;obtain ⟨v8, vB, h⟩ := Ga h;refine Zw (Ty up0 o0 1) (Zh (α := Int) Try.underlying31 Try.sizeOf3 rfl g8 rfl vB) rfl ?_;have bE := Tp g8 vB;refine Ze .plain rfl (Gf (g := yD) Try.isAgg3 Try.sizeOf3 rfl bE fun dF iE => ?_);obtain rfl := Zj.1 iE;refine Zw (.int .i64 (Ha l5 v8)) (Mx rfl rfl) rfl ?_;refine Zg (.int .i64 (Ha l5 v8)) rfl rfl ?_;refine Zb (Ts ?_);obtain rfl := sinj h;exact hQ _ _ ⟨yD, hfr, mB, g8, rfl, nB⟩
    ·clear hx
     obtain ⟨lE, hfr, zB, cC, uC, vC⟩ := hR;refine Za (Zo vC rfl ?_);refine Gg (.int .i64 ((w64 (o0 + (1 : Int))))) rfl rfl rfl rfl ?_;refine Zg (.int .i64 ((w64 (o0 + (1 : Int))))) rfl rfl ?_;exact Zb (Zd (zD (i6, (w64 (o0 + (1 : Int)))) _ _ ⟨lE, hfr, zB, cC, uC, rfl⟩ h))
  ·clear hx
   obtain ⟨eF, hfr, bD⟩ := hR;refine Zf (Za (Zo bD rfl ?_));refine Zg (.int .i64 (t5)) rfl rfl ?_;refine Zb (Zd (Gq ?_));obtain rfl := sinj h;exact Qr rfl rfl (show _ = .int .i64 (t5) from rfl) ⟨_, hfr, rfl⟩
def f26 (x0 : List Int) (x1 : Int) : Option (Int) :=
 jn (σ := Unit) (fun _ =>
  some ((-1 : Int))
  ) fun k14 =>
 lp (σ := Int) (fun vB o0 =>
  bif (decide (o0 < ((x0).length : Int))) then
   jn (σ := Unit) (fun _ =>
    vB ((w64 (o0 + (1 : Int))))
    ) fun yB =>
   (idx x0 o0).bind fun y23 =>
   bif (x1 == y23) then
    some (o0)
   else
    yB ()
  else
   k14 ()
  ) big ((0 : Int))
theorem en26 : Enters Try.prog 26 := enters_of Try.func26 (by kernel_rfl) rfl
theorem wk26 {gI : Gh} {wI : World} {x0 : List Int} {x1 : Int} {up0 : Value} (rp0 : RV gI.m wI x0 up0) {r : Int} (h : f26 x0 x1 = some r) : Fn Try.prog 26 #[up0, .int .i64 (x1)] gI wI (fun _ _ v => v = .int .i64 (r)) := by
 unfold f26 at h;refine Gw Try.func26 rfl (Nat.le_of_ble_eq_true rfl) fun g0 hm hfr => ?_;have rp0 : RV g0.m wI x0 up0 := hm ▸ rp0;show E _ 19 none _ _ _ _ _;refine Zf (Za (Zg (.int .i64 (0)) rfl rfl ?_));refine Zb (Zd (Zq h (fun (s : Unit) e w => ∃ (g : Gh) , Fr gI wI g w) (fun X14 k14 zB h => ?_) ?_))
 ·refine Zf (Za (Zn up0 rfl rfl ?_))
  refine Zw (.int .i64 ((x0).length : Int)) (Tu Try.underlying31 rfl rp0) rfl ?_;refine Zn (.int .i64 (0)) rfl rfl ?_;refine Zb (Zd (Zr ?_));refine Wv h (fun (s : Int) e w => ∃ (g : Gh) , Fr gI wI g w ∧ e 0 = up0 ∧ RV g.m w (x0 : List Int) up0 ∧ e 1 = .int .i64 (x1) ∧ e 7 = .int .i64 (((x0).length : Int)) ∧ e 8 = .int .i64 (s)) ⟨g0, hfr, rfl, rp0, rfl, rfl, rfl⟩ (fun X15 vB cC => ?_);rintro o0 lD yD ⟨l9, hfr, l8, l5, n8, v8, t5⟩ h;refine Zf (Za (Gg (.bool ((decide (o0 < ((x0).length : Int))))) t5 v8 rfl rfl ?_));refine Zb (Zd (Zf ?_));rcases Zt h with ⟨i6, h⟩ | ⟨i6, h⟩
  ·refine Tn i6 rfl ?_
   refine Zu (Zd (Zq h (fun (s : Unit) e w => ∃ (g : Gh) , Fr gI wI g w ∧ e 0 = up0 ∧ RV g.m w (x0 : List Int) up0 ∧ e 1 = .int .i64 (x1) ∧ e 7 = .int .i64 (((x0).length : Int)) ∧ e 8 = .int .i64 (o0)) (fun X22 yB uC h => ?_) ?_))
   ·refine Zr ?_
    refine Zf (Za (Zo t5 rfl ?_));refine Zg (.int .i64 (o0)) rfl rfl ?_;refine Zb (Zd (Zf (Za (Zo n8 rfl ?_))));refine Zo l8 rfl ?_;refine Zn (.int .i64 (o0)) rfl rfl ?_;obtain ⟨y23, n9, h⟩ := Ga h;refine Zw (Ty up0 o0 1) (Zh (α := Int) Try.underlying31 Try.sizeOf3 rfl l5 rfl n9) rfl ?_;have vC := Tp l5 n9;refine Ze .plain rfl (Gf (g := l9) Try.isAgg3 Try.sizeOf3 rfl vC fun zD bD => ?_);obtain rfl := Zj.1 bD;refine Gg (.bool ((x1 == y23))) rfl rfl rfl rfl ?_;refine Zb (Zd ?_);rcases Zt h with ⟨g8, h⟩ | ⟨g8, h⟩
    ·refine Tn g8 rfl ?_
     refine Zf (Za (Zn (.int .i64 (o0)) rfl rfl ?_));refine Zg (.int .i64 (o0)) rfl rfl ?_;refine Zb (Zd (Gq (Wd ?_)));refine Tz ?_;refine Tz ?_;refine Wd ?_;refine Tz ?_;obtain rfl := sinj h;exact Qr rfl rfl (show _ = .int .i64 (o0) from rfl) ⟨_, hfr, rfl⟩
    ·refine To g8 rfl ?_
     exact Zu (Ts (Zd (uC () _ _ ⟨l9, hfr, l8, l5, n8, v8, t5⟩ h)))
   ·rintro _ nD aE ⟨cD, hfr, aB, lB, mB, nB, oB⟩ h
    refine Za (Gg (.int .i64 ((w64 (o0 + (1 : Int))))) oB rfl rfl rfl ?_);refine Zn (.int .i64 ((w64 (o0 + (1 : Int))))) rfl rfl ?_;exact Zb (Zd (cC ((w64 (o0 + (1 : Int)))) _ _ ⟨cD, hfr, aB, lB, mB, nB, rfl⟩ h))
  ·refine To i6 rfl ?_
   refine Qc ?_;refine Tf ?_;refine Tf ?_;refine Tl ?_;exact Zd (zB () _ _ ⟨l9, hfr⟩ h)
 ·rintro _ oD bE ⟨iE, hfr⟩ h
  refine Zf (Za (Zg (.int .i64 (-1)) rfl rfl ?_));refine Zb (Zd (Gq ?_));obtain rfl := sinj h;exact Qr rfl rfl (show _ = .int .i64 (-1) from rfl) ⟨_, hfr, rfl⟩
def f27 (x0 : Int) : Option (Int) :=
 jn (σ := Unit) (fun _ =>
  some ((1 : Int))
  ) fun k2 =>
 bif (x0 == (1 : Int)) then
  some ((0 : Int))
 else
  k2 ()
theorem en27 : Enters Try.prog 27 := enters_of Try.func27 (by kernel_rfl) rfl
theorem wk27 {gI : Gh} {wI : World} {x0 : Int}  {r : Int} (h : f27 x0 = some r) : Fn Try.prog 27 #[.int .i64 (x0)] gI wI (fun _ _ v => v = .int .i64 (r)) := by
 unfold f27 at h;refine Gw Try.func27 rfl (Nat.le_of_ble_eq_true rfl) fun g0 hm hfr => ?_;show E _ 5 none _ _ _ _ _;refine Zf (Za (Zg (.int .i64 (0)) rfl rfl ?_));refine Zb (Zd (Zq h (fun (s : Unit) e w => ∃ (g : Gh) , Fr gI wI g w) (fun X2 k2 hk2 h => ?_) ?_))
 ·refine Zf (Za (Zn (.int .i64 (x0)) rfl rfl ?_))
  refine Gg (.bool ((x0 == (1 : Int)))) rfl rfl rfl rfl ?_;refine Zb (Zd ?_);rcases Zt h with ⟨hc3, h⟩ | ⟨hc3, h⟩
  ·refine Tn hc3 rfl ?_
   refine Zf (Za (Zg (.int .i64 (0)) rfl rfl ?_));refine Zb (Zd (Gq (Tz ?_)));obtain rfl := sinj h;exact Qr rfl rfl (show _ = .int .i64 (0) from rfl) ⟨_, hfr, rfl⟩
  ·refine To hc3 rfl ?_
   exact Zu (Zd (hk2 () _ _ ⟨g0, hfr⟩ h))
 ·rintro _ o0 w4 ⟨g4, hfr⟩ h
  refine Zf (Za (Zg (.int .i64 (1)) rfl rfl ?_));refine Zb (Zd (Gq ?_));obtain rfl := sinj h;exact Qr rfl rfl (show _ = .int .i64 (1) from rfl) ⟨_, hfr, rfl⟩
def f30 (x0 : Gz) (x1 : Int) (x2 : Int) : Option (Int) :=
 (Xz (w64 (x1 * ((x0).PayList).Cap)) (1000 : Int)).bind fun y8 =>
 some ((Ha (w64 (x2 * ((x0).PayList).Fine)) y8))
theorem en30 : Enters Try.prog 30 := enters_of Try.func30 (by kernel_rfl) rfl
theorem wk30 {gI : Gh} {wI : World} {x0 : Gz} {x1 : Int} {x2 : Int} {up0 : Value} (rp0 : RV gI.m wI x0 up0) {r : Int} (h : f30 x0 x1 x2 = some r) : Fn Try.prog 30 #[up0, .int .i64 (x1), .int .i64 (x2)] gI wI (fun _ _ v => v = .int .i64 (r)) := by
 unfold f30 at h;refine Gw Try.func30 rfl (Nat.le_of_ble_eq_true rfl) fun g0 hm hfr => ?_;have rp0 : RV g0.m wI x0 up0 := hm ▸ rp0;show E _ 19 none _ _ _ _ _;refine Zf (Za (Ze .plain rfl (Qs (g := g0) rfl rp0 fun g1 w1 p1 hs q1 => ?_)));have hfr := hfr.ext hs;refine Zg (.int .i64 (0)) rfl rfl ?_;refine Zb (Zd (Zf (Za (Zn (.int .i64 (x2)) rfl rfl ?_))));refine Zw (Gk p1 0) (Zc Ub rfl (PT.ptr q1)) rfl ?_;have q2 := Zm (Wg).1 q1;refine Zw (Gk (Gk p1 0) 2) (Zc Mq rfl (PT.ptr q2)) rfl ?_;have q3 := Zm (Xj).1 q2;refine Ze .plain rfl (Gf (g := g1) Try.isAgg3 Try.sizeOf3 rfl q3 fun v4 r4 => ?_);obtain rfl := Zj.1 r4;refine Gg (.int .i64 ((w64 (x2 * ((x0).PayList).Fine)))) rfl rfl rfl rfl ?_;refine Zn (.int .i64 (x1)) rfl rfl ?_;refine Zw (Gk p1 0) (Zc Ub rfl (PT.ptr q1)) rfl ?_;have q5 := Zm (Wg).1 q1;refine Zw (Gk (Gk p1 0) 3) (Zc Ni rfl (PT.ptr q5)) rfl ?_;have q6 := Zm (Xn).1 q5;refine Ze .plain rfl (Gf (g := g1) Try.isAgg3 Try.sizeOf3 rfl q6 fun v7 r7 => ?_);obtain rfl := Zj.1 r7;refine Gg (.int .i64 ((w64 (x1 * ((x0).PayList).Cap)))) rfl rfl rfl rfl ?_;obtain ⟨y8, o0, h⟩ := Ga h;refine Zw (.int .i64 (y8)) (Gj rfl rfl (congrArg (Option.map (Value.int .i64)) o0)) rfl ?_;refine Zw (.int .i64 (Ha (w64 (x2 * ((x0).PayList).Fine)) y8)) (Mx rfl rfl) rfl ?_;refine Zg (.int .i64 (Ha (w64 (x2 * ((x0).PayList).Fine)) y8)) rfl rfl ?_;refine Zb (Zd (Gq ?_));obtain rfl := sinj h;exact Qr rfl rfl (show _ = .int .i64 (Ha (w64 (x2 * ((x0).PayList).Fine)) y8) from rfl) ⟨_, hfr, rfl⟩
def f35 (x0 : List Int) (x1 : List Int) : Option (Bool) :=
 jn (σ := Unit) (fun _ =>
  jn (σ := Unit) (fun _ =>
   some (true)
   ) fun k53 =>
  lp (σ := Int) (fun k54 o0 =>
   jn (σ := Unit) (fun _ =>
    jn (σ := Unit) (fun _ =>
     k54 ((w64 (o0 + (1 : Int))))
     ) fun cD =>
    (idx x0 o0).bind fun n8 =>
    (idx x1 o0).bind fun v8 =>
    bif (n8 != v8) then
     some (false)
    else
     cD ()
    ) fun k57 =>
   bif (decide (o0 < ((x0).length : Int))) then
    k57 ()
   else
    k53 ()
   ) big ((0 : Int))
  ) fun k2 =>
 bif (((x0).length : Int) != ((x1).length : Int)) then
  some (false)
 else
  k2 ()
theorem en35 : Enters Try.prog 35 := enters_of Try.func35 (by kernel_rfl) rfl
theorem wk35 {gI : Gh} {wI : World} {x0 : List Int} {x1 : List Int} {up0 : Value} (rp0 : RV gI.m wI x0 up0) {up1 : Value} (rp1 : RV gI.m wI x1 up1) {r : Bool} (h : f35 x0 x1 = some r) : Fn Try.prog 35 #[up0, up1] gI wI (fun _ _ v => v = .bool (r)) := by
 unfold f35 at h;refine Gw Try.func35 rfl (Nat.le_of_ble_eq_true rfl) fun g0 hm hfr => ?_;have rp0 : RV g0.m wI x0 up0 := hm ▸ rp0;have rp1 : RV g0.m wI x1 up1 := hm ▸ rp1;show E _ 26 none _ _ _ _ _;refine Zf (Za (Zg (.bool false) rfl rfl ?_));refine Zb (Zd (Zq h (fun (s : Unit) e w => ∃ (g : Gh) , Fr gI wI g w ∧ e 0 = up0 ∧ RV g.m w (x0 : List Int) up0 ∧ e 1 = up1 ∧ RV g.m w (x1 : List Int) up1) (fun X2 k2 hk2 h => ?_) ?_))
 ·refine Zf (Za (Zn up0 rfl rfl ?_))
  refine Zw (.int .i64 ((x0).length : Int)) (Tu Try.underlying31 rfl rp0) rfl ?_;refine Zn up1 rfl rfl ?_;refine Zw (.int .i64 ((x1).length : Int)) (Tu Try.underlying31 rfl rp1) rfl ?_;refine Gg (.bool ((((x0).length : Int) != ((x1).length : Int)))) rfl rfl rfl rfl ?_;refine Zb (Zd ?_);rcases Zt h with ⟨hc3, h⟩ | ⟨hc3, h⟩
  ·refine Tn hc3 rfl ?_
   refine Zf (Za (Zg (.bool false) rfl rfl ?_));refine Zb (Zd (Gq (Tz ?_)));obtain rfl := sinj h;exact Qr rfl rfl (show _ = .bool false from rfl) ⟨_, hfr, rfl⟩
  ·refine To hc3 rfl ?_
   exact Zu (Zd (hk2 () _ _ ⟨g0, hfr, rfl, rp0, rfl, rp1⟩ h))
 ·rintro _ xF w4 ⟨g4, hfr, nD, oD, yD, zD⟩ h
  refine Zq h (fun (s : Unit) e w => ∃ (g : Gh) , Fr gI wI g w) (fun X53 k53 aE h => ?_) ?_
  ·refine Zf (Za (Zg (.int .i64 (0)) rfl rfl ?_))
   refine Zb (Zd (Zr ?_));refine Wv h (fun (s : Int) e w => ∃ (g : Gh) , Fr gI wI g w ∧ e 0 = up0 ∧ RV g.m w (x0 : List Int) up0 ∧ e 1 = up1 ∧ RV g.m w (x1 : List Int) up1 ∧ e 5 = .int .i64 (s)) ⟨g4, hfr, nD, oD, yD, zD, rfl⟩ (fun X54 k54 bE => ?_);rintro o0 rF yF ⟨lD, hfr, l9, n9, vC, bD, aB⟩ h;refine Zq h (fun (s : Unit) e w => ∃ (g : Gh) , Fr gI wI g w ∧ e 0 = up0 ∧ RV g.m w (x0 : List Int) up0 ∧ e 1 = up1 ∧ RV g.m w (x1 : List Int) up1 ∧ e 5 = .int .i64 (o0)) (fun X57 k57 iE h => ?_) ?_
   ·refine Zf (Za (Zo aB rfl ?_))
    refine Zo l9 rfl ?_;refine Zw (.int .i64 ((x0).length : Int)) (Tu Try.underlying31 rfl n9) rfl ?_;refine Gg (.bool ((decide (o0 < ((x0).length : Int))))) rfl rfl rfl rfl ?_;refine Zb (Zd ?_);rcases Zt h with ⟨l8, h⟩ | ⟨l8, h⟩
    ·refine Tn l8 rfl ?_
     exact Zu (Zd (iE () _ _ ⟨lD, hfr, l9, n9, vC, bD, aB⟩ h))
    ·refine To l8 rfl ?_
     refine Qc ?_;refine Tf ?_;refine Tf ?_;refine Tl ?_;exact Zd (aE () _ _ ⟨lD, hfr⟩ h)
   ·rintro _ sF aG ⟨uE, hfr, lB, l5, mB, t5, i6⟩ h
    refine Zq h (fun (s : Unit) e w => ∃ (g : Gh) , Fr gI wI g w ∧ e 0 = up0 ∧ RV g.m w (x0 : List Int) up0 ∧ e 1 = up1 ∧ RV g.m w (x1 : List Int) up1 ∧ e 5 = .int .i64 (o0)) (fun X81 cD lE h => ?_) ?_
    ·refine Zr ?_
     refine Zf ?_;obtain ⟨n8, nB, h⟩ := Ga h;have vE := Tp l5 nB;refine Zs (x := .tmp 19) Try.isAgg3 Try.sizeOf3 vE fun bG xE mE => ?_;obtain rfl := Zj.1 xE;obtain ⟨v8, oB, h⟩ := Ga h;have yE := Tp t5 oB;refine Zs (x := .tmp 23) Try.isAgg3 Try.sizeOf3 yE fun cG zE oE => ?_;obtain rfl := Zj.1 zE;refine Tx (g := uE) (n := 9) [] [0, 1, 2, 3, 4, 5, 6, 7, 8] rfl Qq (by kernel_rfl) trivial ?_;refine Zz up0 rfl rfl (Zk lB) ?_;refine Zz (.int .i64 (o0)) rfl rfl (Zk i6) ?_;refine Zz (Ty up0 o0 1) rfl rfl (Zh (α := Int) Try.underlying31 Try.sizeOf3 rfl l5 rfl nB) ?_;refine Tt (c := .int .i64 (n8)) rfl rfl .plain (fun _ _ h => h.ch) mE rfl ?_;refine Zz up1 rfl rfl (Zk mB) ?_;refine Zz (.int .i64 (o0)) rfl rfl (Zk i6) ?_;refine Zz (Ty up1 o0 1) rfl rfl (Zh (α := Int) Try.underlying31 Try.sizeOf3 rfl t5 rfl oB) ?_;refine Tt (c := .int .i64 (v8)) rfl rfl .plain (fun _ _ h => h.ch) oE rfl ?_;refine Zz (.bool ((n8 != v8))) rfl rfl (Gj rfl rfl rfl) ?_;refine Kr fun cF eG hs => ?_;have hfr := hfr.ext hs;have l5 := l5.ext hs;have t5 := t5.ext hs;clear hs;refine Zb (Zd ?_);rcases Zt h with ⟨g8, h⟩ | ⟨g8, h⟩
     ·refine Tn g8 rfl ?_
      refine Zf (Za (Zg (.bool false) rfl rfl ?_));refine Zb (Zd (Gq (Wd ?_)));refine Tz ?_;refine Tz ?_;refine Wd ?_;refine Tz ?_;obtain rfl := sinj h;exact Qr rfl rfl (show _ = .bool false from rfl) ⟨_, hfr, rfl⟩
     ·refine To g8 rfl ?_
      exact Zu (Ts (Zd (lE () _ _ ⟨cF, hfr, lB, l5, mB, t5, i6⟩ h)))
    ·rintro _ dF tF ⟨rE, hfr, vB, yB, zB, cC, uC⟩ h
     refine Za (Zo uC rfl ?_);refine Gg (.int .i64 ((w64 (o0 + (1 : Int))))) rfl rfl rfl rfl ?_;refine Zg (.int .i64 ((w64 (o0 + (1 : Int))))) rfl rfl ?_;exact Zb (Zd (bE ((w64 (o0 + (1 : Int)))) _ _ ⟨rE, hfr, vB, yB, zB, cC, rfl⟩ h))
  ·rintro _ eF uF ⟨vF, hfr⟩ h
   refine Zf (Za (Zg (.bool true) rfl rfl ?_));refine Zb (Zd (Gq ?_));obtain rfl := sinj h;exact Qr rfl rfl (show _ = .bool true from rfl) ⟨_, hfr, rfl⟩
def f40 (x0 : Int) (z0 : Int) (z1 : Int) : Option (Bool) :=
 Option.bind (α := Bool) (
  bif (decide (x0 < z0)) then
   some (true)
  else
   some ((decide (x0 > z1)))
  ) fun o0 =>
 some (o0)
theorem en40 : Enters Try.prog 40 := enters_of Try.func40 (by kernel_rfl) rfl
theorem wk40 {gI : Gh} {wI : World} {x0 : Int} {z0 : Int} {z1 : Int} {pf0 : Value} (qf0 : PT gI.m wI z0 pf0) {pf1 : Value} (qf1 : PT gI.m wI z1 pf1) {r : Bool} (h : f40 x0 z0 z1 = some r) : Fn Try.prog 40 #[.int .i64 (x0), pf0, pf1] gI wI (fun _ _ v => v = .bool (r)) := by
 unfold f40 at h;refine Gw Try.func40 rfl (Nat.le_of_ble_eq_true rfl) fun g0 hm hfr => ?_;have qf0 : PT g0.m wI z0 pf0 := hm ▸ qf0;have qf1 : PT g0.m wI z1 pf1 := hm ▸ qf1;show E _ 13 none _ _ _ _ _;refine Zf (Za (Zg (.bool false) rfl rfl ?_));refine Zb (Zd ?_);obtain ⟨o0, hx, h⟩ := Ga h;refine Gp (fun e w => ∃ (g : Gh) , Fr gI wI g w ∧ e 4 = .bool (o0)) (fun Q' hQ => ?_) (fun t5 w7 hR => ?_)
 ·replace h := hx
  clear hx;refine Za (Zn (.int .i64 (x0)) rfl rfl ?_);refine Ze .plain rfl (Gf (g := g0) Try.isAgg3 Try.sizeOf3 rfl qf0 fun v4 r4 => ?_);obtain rfl := Zj.1 r4;refine Gg (.bool ((decide (x0 < z0)))) rfl rfl rfl rfl ?_;refine Zn (.bool ((decide (x0 < z0)))) rfl rfl ?_;rcases Zt h with ⟨hc5, h⟩ | ⟨hc5, h⟩
  ·refine Zy rfl rfl hc5 rfl rfl ?_
   refine Zy rfl rfl hc5 rfl rfl ?_;refine Zy rfl rfl hc5 rfl rfl ?_;refine Zw (.bool true) (Zl (b := (decide (x0 < z0))) rfl (Tg hc5 rfl)) rfl ?_;refine Zg (.bool true) rfl rfl ?_;refine Zb ?_;obtain rfl := sinj h;exact hQ _ _ ⟨g0, hfr, rfl⟩
  ·refine Zx (.int .i64 (x0)) (Zk rfl) rfl rfl hc5 rfl ?_
   refine Ze (.yes2 rfl rfl hc5) rfl (Gf (g := g0) Try.isAgg3 Try.sizeOf3 rfl qf1 fun v6 r6 => ?_);obtain rfl := Zj.1 r6;refine Zx (.bool ((decide (x0 > z1)))) (Gj rfl rfl rfl) rfl rfl hc5 rfl ?_;refine Zw (.bool ((decide (x0 > z1)))) (Zl (b := (decide (x0 < z0))) rfl (Tq hc5 rfl)) rfl ?_;refine Zg (.bool ((decide (x0 > z1)))) rfl rfl ?_;refine Zb ?_;obtain rfl := sinj h;exact hQ _ _ ⟨g0, hfr, rfl⟩
 ·clear hx
  obtain ⟨g7, hfr, l5⟩ := hR;refine Gq ?_;obtain rfl := sinj h;exact Qr rfl rfl (show _ = .bool (o0) from l5) ⟨_, hfr, rfl⟩
def f46 (x0 : List (List Int)) : Option ((List (List Int))) :=
 lp (σ := (List (List Int)) × Int × Int) (fun k1 (t5, o0, l5) =>
  jn (σ := Unit) (fun _ =>
   Option.bind (α := (List (List Int))) (
    (idx t5 l5).bind fun n9 =>
    (idx t5 o0).bind fun aB =>
    (idx t5 o0).bind fun aE =>
    (idx ((List.set t5 (Int.toNat o0) n9)) l5).bind fun y55 =>
    some ((List.set ((List.set t5 (Int.toNat o0) n9)) (Int.toNat l5) aB))
    ) fun g8 =>
   k1 (g8, (w64 (o0 + (1 : Int))), (w64 (l5 - (1 : Int))))
   ) fun k4 =>
  bif (decide (o0 < l5)) then
   k4 ()
  else
   some (t5)
  ) big (x0, (0 : Int), (w64 (((x0).length : Int) - (1 : Int))))
theorem en46 : Enters Try.prog 46 := enters_of Try.func46 (by kernel_rfl) rfl
theorem wk46 {iI : Nat} {gI : Gh} {wI : World} {x0 : List (List Int)} {up0 : Value} (mp0 : OM iI gI wI 31 x0 up0) {r : (List (List Int))} (h : f46 x0 = some r) : FnM Try.prog 46 #[up0] iI gI wI (fun g w v => v = .tuple #[] ∧ OM iI g w 31 r up0) := by
 unfold f46 at h;refine Yd Try.func46 rfl (Nat.le_of_ble_eq_true rfl) fun g0 hm hfr => ?_;have uC := mp0;replace mp0 := mp0.enter;rw [← hm] at mp0
 replace hm : g0.m = gI.m := by rw [hm]
 show E _ 28 none _ _ _ _ _;refine Zf (Za (Zn up0 rfl rfl ?_));refine Zw (.int .i64 ((x0).length : Int)) (Rx Try.underlying76 rfl mp0) rfl ?_;refine Gg (.int .i64 ((w64 (((x0).length : Int) - (1 : Int))))) rfl rfl rfl rfl ?_;refine Zg (.int .i64 (0)) rfl rfl ?_;refine Zg (.int .i64 ((w64 (((x0).length : Int) - (1 : Int))))) rfl rfl ?_;refine Zb (Zd (Zr ?_));refine Wv h (fun (s : (List (List Int)) × Int × Int) e w => ∃ (g : Gh) , FrM iI gI wI g w ∧ e 0 = up0 ∧ OM 1 g w 31 (s.1 : List (List Int)) up0 ∧ e 2 = .int .i64 (s.2.1) ∧ e 3 = .int .i64 (s.2.2)) ⟨g0, hfr, rfl, mp0, rfl, rfl⟩ (fun X1 k1 hk1 => ?_);rintro ⟨t5, o0, l5⟩ vE w2 ⟨g2, hfr, oD, lB, mB, nB⟩ h;refine Zq h (fun (s : Unit) e w => ∃ (g : Gh) , FrM iI gI wI g w ∧ e 0 = up0 ∧ OM 1 g w 31 (t5 : List (List Int)) up0 ∧ e 2 = .int .i64 (o0) ∧ e 3 = .int .i64 (l5)) (fun X4 k4 hk4 h => ?_) ?_
 ·refine Zf (Za (Zo mB rfl ?_))
  refine Zo nB rfl ?_;refine Gg (.bool ((decide (o0 < l5)))) rfl rfl rfl rfl ?_;refine Zb (Zd ?_);rcases Zt h with ⟨hc5, h⟩ | ⟨hc5, h⟩
  ·refine Tn hc5 rfl ?_
   exact Zu (Zd (hk4 () _ _ ⟨g2, hfr, oD, lB, mB, nB⟩ h))
  ·refine To hc5 rfl ?_
   refine Qc ?_;refine Tf ?_;refine Tf ?_;refine Tl ?_;obtain rfl := sinj h;exact Vu rfl rfl ⟨_, hfr, rfl, uC.back lB⟩
 ·rintro _ xE w6 ⟨g6, hfr, l8, i6, v8, l9⟩ h
  obtain ⟨g8, hx, h⟩ := Ga h;refine Gp (fun e w => ∃ (g : Gh) , FrM iI gI wI g w ∧ e 0 = up0 ∧ OM 1 g w 31 (g8 : List (List Int)) up0 ∧ e 2 = .int .i64 (o0) ∧ e 3 = .int .i64 (l5)) (fun Q' hQ => ?_) (fun uE yE hR => ?_)
  ·replace h := hx
   clear hx;refine Zr ?_;obtain ⟨n9, oB, h⟩ := Ga h;refine Ww (x := .tmp 20) Try.isAgg31 Try.sizeOf31 i6 oB fun bE vB yD => ?_;obtain ⟨aB, yB, h⟩ := Ga h;refine Ww (x := .tmp 24) Try.isAgg31 Try.sizeOf31 i6 yB fun iE n8 zD => ?_;obtain ⟨aE, zB, h⟩ := Ga h;refine Ur (g := g6) (n := 13) [2, 3] [] [0, 1, 2, 3, 4, 5, 6, 7, 8, 9, 10, 11, 12] rfl Qq (by kernel_rfl) trivial rfl ?_;refine Zz up0 rfl rfl (Zk l8) ?_;refine Zz (.int .i64 (o0)) rfl rfl (Zk v8) ?_;refine Jf (c := up0) rfl rfl .plain (Zk l8) ?_;refine Jf (c := .int .i64 (l5)) rfl rfl .plain (Zk l9) ?_;refine Zz up0 rfl rfl (Zk l8) ?_;refine Zz (.int .i64 (l5)) rfl rfl (Zk l9) ?_;refine Zz (Ty up0 l5 1) rfl rfl (Gx (α := List Int) Try.underlying76 Try.sizeOf31 rfl i6 rfl oB) ?_;refine Tt (c := bE) rfl rfl .plain (fun _ _ h => ⟨h.ch, fun b hb _ => h.below.block b hb⟩) yD rfl ?_;refine Zz up0 rfl rfl (Zk l8) ?_;refine Zz (.int .i64 (o0)) rfl rfl (Zk v8) ?_;refine Zz (Ty up0 o0 1) rfl rfl (Gx (α := List Int) Try.underlying76 Try.sizeOf31 rfl i6 rfl yB) ?_;refine Tt (c := iE) rfl rfl .plain (fun _ _ h => ⟨h.ch, fun b hb _ => h.below.block b hb⟩) zD rfl ?_;refine Zz (Ty up0 o0 1) rfl rfl (Gx (α := List Int) Try.underlying76 Try.sizeOf31 rfl i6 rfl zB) ?_;refine Kr fun nD lE hs => ?_;have hlt : Lt g6.m w6 nD lE := hs.ch;have hfr := hfr.ext hs;have i6 := i6.ext hs;have vB := vB.ext hs;have n8 := n8.ext hs;clear hs;refine Vq hlt.w .plain rfl (Kz (g := nD) (α := List Int) (a' := n9) Try.sizeOf31 rfl i6 zB rfl vB fun mE zE hs b54 => ?_);have hfr := hfr.stp hs;have hlt := hlt.stp hs;have n8 := n8.stp hs;obtain ⟨y55, cC, h⟩ := Ga h;refine Sd hlt.w (v := Ty up0 l5 1) (Gx (α := List Int) Try.underlying76 Try.sizeOf31 rfl b54 rfl cC) .plain rfl ?_;refine Vq hlt.w .plain rfl (Kz (g := mE) (α := List Int) (a' := aB) Try.sizeOf31 rfl b54 cC rfl n8 fun oE cF hs b56 => ?_);have hfr := hfr.stp hs;have hlt := hlt.stp hs;refine Sb hlt.w ?_;clear hlt;refine Ts ?_;obtain rfl := sinj h;exact hQ _ _ ⟨oE, hfr, l8, b56, v8, l9⟩
  ·clear hx
   obtain ⟨rE, hfr, vC, bD, cD, lD⟩ := hR;refine Za (Zo cD rfl ?_);refine Gg (.int .i64 ((w64 (o0 + (1 : Int))))) rfl rfl rfl rfl ?_;refine Zo lD rfl ?_;refine Gg (.int .i64 ((w64 (l5 - (1 : Int))))) rfl rfl rfl rfl ?_;refine Zg (.int .i64 ((w64 (o0 + (1 : Int))))) rfl rfl ?_;refine Zg (.int .i64 ((w64 (l5 - (1 : Int))))) rfl rfl ?_;exact Zb (Zd (hk1 (g8, (w64 (o0 + (1 : Int))), (w64 (l5 - (1 : Int)))) _ _ ⟨rE, hfr, vC, bD, rfl, rfl⟩ h))
def f50 (x0 : Int) (z0 : Int) (z1 : Int) : Option (Bool) :=
 Option.bind (α := Bool) (
  bif (decide (x0 < z0)) then
   some (true)
  else
   some ((decide (x0 > z1)))
  ) fun o0 =>
 some (o0)
theorem en50 : Enters Try.prog 50 := enters_of Try.func50 (by kernel_rfl) rfl
theorem wk50 {gI : Gh} {wI : World} {x0 : Int} {z0 : Int} {z1 : Int} {pf0 : Value} (qf0 : PT gI.m wI z0 pf0) {pf1 : Value} (qf1 : PT gI.m wI z1 pf1) {r : Bool} (h : f50 x0 z0 z1 = some r) : Fn Try.prog 50 #[.int .i64 (x0), pf0, pf1] gI wI (fun _ _ v => v = .bool (r)) := by
 unfold f50 at h;refine Gw Try.func50 rfl (Nat.le_of_ble_eq_true rfl) fun g0 hm hfr => ?_;have qf0 : PT g0.m wI z0 pf0 := hm ▸ qf0;have qf1 : PT g0.m wI z1 pf1 := hm ▸ qf1;show E _ 13 none _ _ _ _ _;refine Zf (Za (Zg (.bool false) rfl rfl ?_));refine Zb (Zd ?_);obtain ⟨o0, hx, h⟩ := Ga h;refine Gp (fun e w => ∃ (g : Gh) , Fr gI wI g w ∧ e 4 = .bool (o0)) (fun Q' hQ => ?_) (fun t5 w7 hR => ?_)
 ·replace h := hx
  clear hx;refine Za (Zn (.int .i64 (x0)) rfl rfl ?_);refine Ze .plain rfl (Gf (g := g0) Try.isAgg3 Try.sizeOf3 rfl qf0 fun v4 r4 => ?_);obtain rfl := Zj.1 r4;refine Gg (.bool ((decide (x0 < z0)))) rfl rfl rfl rfl ?_;refine Zn (.bool ((decide (x0 < z0)))) rfl rfl ?_;rcases Zt h with ⟨hc5, h⟩ | ⟨hc5, h⟩
  ·refine Zy rfl rfl hc5 rfl rfl ?_
   refine Zy rfl rfl hc5 rfl rfl ?_;refine Zy rfl rfl hc5 rfl rfl ?_;refine Zw (.bool true) (Zl (b := (decide (x0 < z0))) rfl (Tg hc5 rfl)) rfl ?_;refine Zg (.bool true) rfl rfl ?_;refine Zb ?_;obtain rfl := sinj h;exact hQ _ _ ⟨g0, hfr, rfl⟩
  ·refine Zx (.int .i64 (x0)) (Zk rfl) rfl rfl hc5 rfl ?_
   refine Ze (.yes2 rfl rfl hc5) rfl (Gf (g := g0) Try.isAgg3 Try.sizeOf3 rfl qf1 fun v6 r6 => ?_);obtain rfl := Zj.1 r6;refine Zx (.bool ((decide (x0 > z1)))) (Gj rfl rfl rfl) rfl rfl hc5 rfl ?_;refine Zw (.bool ((decide (x0 > z1)))) (Zl (b := (decide (x0 < z0))) rfl (Tq hc5 rfl)) rfl ?_;refine Zg (.bool ((decide (x0 > z1)))) rfl rfl ?_;refine Zb ?_;obtain rfl := sinj h;exact hQ _ _ ⟨g0, hfr, rfl⟩
 ·clear hx
  obtain ⟨g7, hfr, l5⟩ := hR;refine Gq ?_;obtain rfl := sinj h;exact Qr rfl rfl (show _ = .bool (o0) from l5) ⟨_, hfr, rfl⟩
def f59 (x0 : List Int) : Option (Int × Int) :=
 Option.bind (α := Int × Int) (
  lp (σ := Int × Int × Int) (fun oD (l9, l5, o0) =>
   bif (decide (o0 < ((x0).length : Int))) then
    Option.bind (α := Int × Int) (
     (idx x0 o0).bind fun mB =>
     bif (mB != (0 : Int)) then
      some (o0, (w64 (l5 + (1 : Int))))
     else
      some (l9, l5)
     ) fun (l8, n8) =>
    oD (l8, n8, (w64 (o0 + (1 : Int))))
   else
    some (l9, l5)
   ) big ((0 : Int), (0 : Int), (0 : Int))
  ) fun (t5, i6) =>
 some (t5, i6)
theorem en59 : Enters Try.prog 59 := enters_of Try.func59 (by kernel_rfl) rfl
theorem wk59 {gI : Gh} {wI : World} {x0 : List Int} {up0 : Value} (rp0 : RV gI.m wI x0 up0) {r : Int × Int} (h : f59 x0 = some r) : Fn Try.prog 59 #[up0] gI wI (fun m w v => ∃ y0 y1, v = .tuple #[y0, y1] ∧ y0 = .int .i64 (r.1) ∧ y1 = .int .i64 (r.2)) := by
 unfold f59 at h;refine Gw Try.func59 rfl (Nat.le_of_ble_eq_true rfl) fun g0 hm hfr => ?_;have rp0 : RV g0.m wI x0 up0 := hm ▸ rp0;show E _ 21 none _ _ _ _ _;refine Zf (Za (Zg (.int .i64 (0)) rfl rfl ?_));refine Zg (.int .i64 (0)) rfl rfl ?_;refine Zb (Zd ?_);obtain ⟨⟨t5, i6⟩, hx, h⟩ := Ga h;refine Gp (fun e w => ∃ (g : Gh) , Fr gI wI g w ∧ e 2 = .int .i64 (t5) ∧ e 3 = .int .i64 (i6)) (fun Q' hQ => ?_) (fun iE oE hR => ?_)
 ·replace h := hx
  clear hx;refine Zf (Za (Zn up0 rfl rfl ?_));refine Zw (.int .i64 ((x0).length : Int)) (Tu Try.underlying31 rfl rp0) rfl ?_;refine Zn (.int .i64 (0)) rfl rfl ?_;refine Zb (Zd (Zr ?_));refine Wv h (fun (s : Int × Int × Int) e w => ∃ (g : Gh) , Fr gI wI g w ∧ e 2 = .int .i64 (s.1) ∧ e 3 = .int .i64 (s.2.1) ∧ e 6 = up0 ∧ RV g.m w (x0 : List Int) up0 ∧ e 7 = .int .i64 (((x0).length : Int)) ∧ e 8 = .int .i64 (s.2.2)) ⟨g0, hfr, rfl, rfl, rfl, rp0, rfl, rfl⟩ (fun X13 oD yD => ?_);rintro ⟨l9, l5, o0⟩ lE rE ⟨vB, hfr, yB, n9, aB, v8, lB, g8⟩ h;refine Zf (Za (Gg (.bool ((decide (o0 < ((x0).length : Int))))) g8 lB rfl rfl ?_));refine Zb (Zd (Zf ?_));rcases Zt h with ⟨nB, h⟩ | ⟨nB, h⟩
  ·refine Tn nB rfl ?_
   refine Zu (Zd ?_);obtain ⟨⟨l8, n8⟩, hx, h⟩ := Ga h;refine Gp (fun e w => ∃ (g : Gh) , Fr gI wI g w ∧ e 2 = .int .i64 (l8) ∧ e 3 = .int .i64 (n8) ∧ e 6 = up0 ∧ RV g.m w (x0 : List Int) up0 ∧ e 7 = .int .i64 (((x0).length : Int)) ∧ e 8 = .int .i64 (o0)) (fun Q' hQ => ?_) (fun mE uE hR => ?_)
   ·replace h := hx
    clear hx;refine Zr ?_;refine Zf (Za (Zo g8 rfl ?_));obtain ⟨mB, hy20, h⟩ := Ga h;refine Zw (Ty up0 o0 1) (Zh (α := Int) Try.underlying31 Try.sizeOf3 aB v8 g8 hy20) rfl ?_;have zD := Tp v8 hy20;refine Ze .plain rfl (Gf (g := vB) Try.isAgg3 Try.sizeOf3 rfl zD fun vE aE => ?_);obtain rfl := Zj.1 aE;refine Zg (.int .i64 (o0)) rfl rfl ?_;refine Zg (.int .i64 (mB)) rfl rfl ?_;refine Zb (Zd (Zf (Za (Zn (.int .i64 (mB)) rfl rfl ?_))));refine Gg (.bool ((mB != (0 : Int)))) rfl rfl rfl rfl ?_;refine Zb (Zd ?_);rcases Zt h with ⟨oB, h⟩ | ⟨oB, h⟩
    ·refine Tn oB rfl ?_
     refine Zf (Za (Zn (.int .i64 (o0)) rfl rfl ?_));refine Zg (.int .i64 (o0)) rfl rfl ?_;refine Zb (Zd (Za (Zo n9 rfl ?_)));refine Gg (.int .i64 ((w64 (l5 + (1 : Int))))) rfl rfl rfl rfl ?_;refine Zg (.int .i64 ((w64 (l5 + (1 : Int))))) rfl rfl ?_;refine Zb (Ts ?_);obtain ⟨rfl, rfl⟩ := Hn h;exact hQ _ _ ⟨vB, hfr, rfl, rfl, aB, v8, lB, g8⟩
    ·refine To oB rfl ?_
     refine Zu (Ts ?_);obtain ⟨rfl, rfl⟩ := Hn h;exact hQ _ _ ⟨vB, hfr, yB, n9, aB, v8, lB, g8⟩
   ·clear hx
    obtain ⟨bE, hfr, zB, cC, uC, vC, bD, cD⟩ := hR;refine Za (Gg (.int .i64 ((w64 (o0 + (1 : Int))))) cD rfl rfl rfl ?_);refine Zn (.int .i64 ((w64 (o0 + (1 : Int))))) rfl rfl ?_;exact Zb (Zd (yD (l8, n8, (w64 (o0 + (1 : Int)))) _ _ ⟨bE, hfr, zB, cC, uC, vC, bD, rfl⟩ h))
  ·refine To nB rfl ?_
   refine Qc ?_;refine Tf ?_;refine Tf ?_;refine Tl ?_;obtain ⟨rfl, rfl⟩ := Hn h;exact hQ _ _ ⟨vB, hfr, yB, n9⟩
 ·clear hx
  obtain ⟨xE, hfr, lD, nD⟩ := hR;refine Zf (Za (Zo lD rfl ?_));refine Zo nD rfl ?_;refine Zg (.int .i64 (t5)) rfl rfl ?_;refine Zg (.int .i64 (i6)) rfl rfl ?_;refine Zb (Zd (Gq ?_));obtain rfl := sinj h;exact Bc rfl rfl (show _ = .int .i64 (t5) from rfl) (show _ = .int .i64 (i6) from rfl) ⟨_, hfr, _, _, rfl, rfl, rfl⟩
def f63 (x0 : List Int) (x1 : Int → Option Bool) : Option (Int) :=
 jn (σ := Unit) (fun _ =>
  some ((-1 : Int))
  ) fun k18 =>
 lp (σ := Int) (fun k19 o0 =>
  bif (decide (o0 < ((x0).length : Int))) then
   jn (σ := Unit) (fun _ =>
    k19 ((w64 (o0 + (1 : Int))))
    ) fun k28 =>
   (idx x0 o0).bind fun l9 =>
   (x1 l9).bind fun yB =>
   bif yB then
    some (o0)
   else
    k28 ()
  else
   k18 ()
  ) big ((0 : Int))
theorem en63 : Enters Try.prog 63 := enters_of Try.func63 (by kernel_rfl) rfl
theorem wk63 {gI : Gh} {wI : World} {x0 : List Int} {x1 : Int → Option Bool} {up0 : Value} (rp0 : RV gI.m wI x0 up0) {up1 : Value} (rp1 : Sq Try.prog x1 up1 gI wI) {r : Int} (h : f63 x0 x1 = some r) : Fn Try.prog 63 #[up0, up1] gI wI (fun _ _ v => v = .int .i64 (r)) := by
 unfold f63 at h;refine Gw Try.func63 rfl (Nat.le_of_ble_eq_true rfl) fun g0 hm hfr => ?_;have rp0 : RV g0.m wI x0 up0 := hm ▸ rp0;obtain ⟨ff1, fa1, fc1, rfl, fen1, fcl1⟩ := rp1;show E _ 19 none _ _ _ _ _;refine Zf (Za (Zg (.int .i64 (0)) rfl rfl ?_));refine Zb (Zd (Zq h (fun (s : Unit) e w => ∃ (g : Gh) , Fr gI wI g w) (fun X18 k18 zB h => ?_) ?_))
 ·refine Zf (Za (Zn up0 rfl rfl ?_))
  refine Zw (.int .i64 ((x0).length : Int)) (Tu Try.underlying31 rfl rp0) rfl ?_;refine Zn (.int .i64 (0)) rfl rfl ?_;refine Zb (Zd (Zr ?_));refine Wv h (fun (s : Int) e w => ∃ (g : Gh) , Fr gI wI g w ∧ e 0 = up0 ∧ RV g.m w (x0 : List Int) up0 ∧ e 1 = (.func (.func ff1) fa1 fc1) ∧ e 7 = .int .i64 (((x0).length : Int)) ∧ e 8 = .int .i64 (s)) ⟨g0, hfr, rfl, rp0, rfl, rfl, rfl⟩ (fun X19 k19 cC => ?_);rintro o0 oD aE ⟨n9, hfr, l8, l5, n8, v8, t5⟩ h;refine Zf (Za (Gg (.bool ((decide (o0 < ((x0).length : Int))))) t5 v8 rfl rfl ?_));refine Zb (Zd (Zf ?_));rcases Zt h with ⟨i6, h⟩ | ⟨i6, h⟩
  ·refine Tn i6 rfl ?_
   refine Zu (Zd (Zq h (fun (s : Unit) e w => ∃ (g : Gh) , Fr gI wI g w ∧ e 0 = up0 ∧ RV g.m w (x0 : List Int) up0 ∧ e 1 = (.func (.func ff1) fa1 fc1) ∧ e 7 = .int .i64 (((x0).length : Int)) ∧ e 8 = .int .i64 (o0)) (fun X28 k28 uC h => ?_) ?_))
   ·refine Zr ?_
    refine Zf (Za (Zo t5 rfl ?_));refine Zg (.int .i64 (o0)) rfl rfl ?_;refine Zb (Zd (Zf (Za (Zo n8 rfl ?_))));refine Zo l8 rfl ?_;refine Zn (.int .i64 (o0)) rfl rfl ?_;obtain ⟨l9, aB, h⟩ := Ga h;refine Zw (Ty up0 o0 1) (Zh (α := Int) Try.underlying31 Try.sizeOf3 rfl l5 rfl aB) rfl ?_;have bD := Tp l5 aB;refine Ze .plain rfl (Gf (g := n9) Try.isAgg3 Try.sizeOf3 rfl bD fun bE cD => ?_);obtain rfl := Zj.1 cD;obtain ⟨yB, vC, h⟩ := Ga h;refine Ze .plain rfl (Yp (g := n9) (vs := [.int .i64 (l9)]) rfl fen1 (.cons rfl .nil) (fcl1 _ _ hfr.ch _ _ _  (Zj.2 rfl) vC) fun lD iE lE hs hr => ?_);have hfr := hfr.ext hs;have l5 := l5.ext hs;obtain rfl := Kl.1 hr;refine Zb (Zd ?_);rcases Zt h with ⟨g8, h⟩ | ⟨g8, h⟩
    ·refine Tn g8 rfl ?_
     refine Zf (Za (Zn (.int .i64 (o0)) rfl rfl ?_));refine Zg (.int .i64 (o0)) rfl rfl ?_;refine Zb (Zd (Gq (Wd ?_)));refine Tz ?_;refine Tz ?_;refine Wd ?_;refine Tz ?_;obtain rfl := sinj h;exact Qr rfl rfl (show _ = .int .i64 (o0) from rfl) ⟨_, hfr, rfl⟩
    ·refine To g8 rfl ?_
     exact Zu (Ts (Zd (uC () _ _ ⟨lD, hfr, l8, l5, n8, v8, t5⟩ h)))
   ·rintro _ yD mE ⟨nD, hfr, lB, mB, nB, oB, vB⟩ h
    refine Za (Gg (.int .i64 ((w64 (o0 + (1 : Int))))) vB rfl rfl rfl ?_);refine Zn (.int .i64 ((w64 (o0 + (1 : Int))))) rfl rfl ?_;exact Zb (Zd (cC ((w64 (o0 + (1 : Int)))) _ _ ⟨nD, hfr, lB, mB, nB, oB, rfl⟩ h))
  ·refine To i6 rfl ?_
   refine Qc ?_;refine Tf ?_;refine Tf ?_;refine Tl ?_;exact Zd (zB () _ _ ⟨n9, hfr⟩ h)
 ·rintro _ zD oE ⟨rE, hfr⟩ h
  refine Zf (Za (Zg (.int .i64 (-1)) rfl rfl ?_));refine Zb (Zd (Gq ?_));obtain rfl := sinj h;exact Qr rfl rfl (show _ = .int .i64 (-1) from rfl) ⟨_, hfr, rfl⟩
def f65 (z0 : List Int) (σ : Type) (cons : Cn σ (Int × Int)) (s0 : σ) : Option σ :=
 lp (σ := σ × Int) (fun k2 (l5, o0) =>
  jn (σ := Unit) (fun _ =>
   jn (σ := σ) (fun t5 =>
    k2 (t5, (w64 (o0 - (1 : Int))))
    ) fun zB =>
   (idx z0 o0).bind fun l9 =>
   (cons l5 (o0, l9)).bind fun (l8, i6) =>
   bif (!l8) then
    some i6
   else
    zB (i6)
   ) fun k5 =>
  bif (decide (o0 ≥ (0 : Int))) then
   k5 ()
  else
   some l5
  ) big (s0, (w64 (((z0).length : Int) - (1 : Int))))
theorem en65 : Enters Try.prog 65 := enters_of Try.func65 (by kernel_rfl) rfl
theorem wk65 {σ : Type} {cons : Cn σ (Int × Int)} {s0 r : σ} {gI : Gh} {wI : World} {z0 : List Int} {pf0 : Value} (qf0 : PT gI.m wI z0 pf0) (h : f65 z0 σ cons s0 = some r) : Nj Try.prog (RA2 (α := Int) (β := Int)) 65 #[] #[pf0] gI wI cons s0 r := by
 unfold f65 at h;refine Cv Try.func65 rfl (Nat.le_of_ble_eq_true rfl) fun l B J g0 hm hAb hRo hfr => ?_;have qf0 : PT g0.m wI z0 pf0 := hm ▸ qf0;show E _ 19 none _ _ (Uo #[.func (.yield l) #[] #[], pf0]) _ _;refine Zf (Za (Ze .plain rfl (Gf (g := g0) Try.isAgg31 Try.sizeOf31 rfl qf0 fun v1 r1 => ?_)));refine Zw (.int .i64 ((z0).length : Int)) (Tu Try.underlying31 rfl r1) rfl ?_;refine Gg (.int .i64 ((w64 (((z0).length : Int) - (1 : Int))))) rfl rfl rfl rfl ?_;refine Zg (.int .i64 ((w64 (((z0).length : Int) - (1 : Int))))) rfl rfl ?_;refine Zb (Zd (Zr ?_));refine Wv h (fun (s : σ × Int) e w => ∃ (g : Gh) , FrY gI wI B J (s.1) g w ∧ e 0 = (.func (.yield l) #[] #[]) ∧ e 1 = pf0 ∧ PT g.m w (z0 : List Int) pf0 ∧ e 3 = .int .i64 (s.2)) ⟨g0, hfr, rfl, rfl, qf0, rfl⟩ (fun X2 k2 hk2 => ?_);rintro ⟨l5, o0⟩ lE w3 ⟨g3, hfr, uC, vC, bD, n9⟩ h;refine Zq h (fun (s : Unit) e w => ∃ (g : Gh) , FrY gI wI B J (l5) g w ∧ e 0 = (.func (.yield l) #[] #[]) ∧ e 1 = pf0 ∧ PT g.m w (z0 : List Int) pf0 ∧ e 3 = .int .i64 (o0)) (fun X5 k5 hk5 h => ?_) ?_
 ·refine Zf (Za (Zo n9 rfl ?_))
  refine Gg (.bool ((decide (o0 ≥ (0 : Int))))) rfl rfl rfl rfl ?_;refine Zb (Zd ?_);rcases Zt h with ⟨hc6, h⟩ | ⟨hc6, h⟩
  ·refine Tn hc6 rfl ?_
   exact Zu (Zd (hk5 () _ _ ⟨g3, hfr, uC, vC, bD, n9⟩ h))
  ·refine To hc6 rfl ?_
   refine Qc ?_;refine Tf ?_;refine Tf ?_;refine Tl ?_;obtain rfl := sinj h;exact Vu rfl rfl (FrY.done hfr)
 ·rintro _ mE w7 ⟨g7, hfr, aB, lB, g8, n8⟩ h
  refine Zq h (fun (s : σ) e w => ∃ (g : Gh) , FrY gI wI B J (s) g w ∧ e 0 = (.func (.yield l) #[] #[]) ∧ e 1 = pf0 ∧ PT g.m w (z0 : List Int) pf0 ∧ e 3 = .int .i64 (o0)) (fun X15 zB cD h => ?_) ?_
  ·refine Zr ?_
   refine Zf (Za (Zo aB rfl ?_));refine Zo n8 rfl ?_;refine Ze .plain rfl (Gf (g := g7) Try.isAgg31 Try.sizeOf31 lB g8 fun nD cC => ?_);refine Zo n8 rfl ?_;obtain ⟨l9, mB, h⟩ := Ga h;refine Zw (Ty nD o0 1) (Zh (α := Int) Try.underlying31 Try.sizeOf3 rfl cC rfl mB) rfl ?_;have oD := Tp cC mB;refine Ze .plain rfl (Gf (g := g7) Try.isAgg3 Try.sizeOf3 rfl oD fun oE yD => ?_);obtain rfl := Zj.1 yD;obtain ⟨zD, lD, h⟩ := Ga h;obtain ⟨l8, i6⟩ := zD;refine Ze .plain rfl (Mj (g := g7) (x := (o0, l9)) rfl (.cons rfl (.cons rfl .nil)) hRo hfr lD ⟨_, _, rfl, (Zj.2 rfl), (Zj.2 rfl)⟩ fun aE rE hs hfrY => ?_);have g8 := g8.stp hs;have hfr := hfrY;clear hfrY;refine Zw (.bool (!l8)) (Wh rfl) rfl ?_;refine Zb (Zd ?_);rcases Zt h with ⟨v8, h⟩ | ⟨v8, h⟩
   ·refine Tn v8 rfl ?_
    refine Gq (Wd ?_);refine Tz ?_;refine Tz ?_;refine Wd ?_;obtain rfl := sinj h;exact end0 rfl rfl (FrY.done hfr)
   ·refine To v8 rfl ?_
    exact Zu (Ts (Zd (cD (i6) _ _ ⟨aE, hfr, aB, lB, g8, n8⟩ h)))
  ·rintro t5 iE uE ⟨bE, hfr, nB, oB, vB, yB⟩ h
   refine Za (Zo yB rfl ?_);refine Gg (.int .i64 ((w64 (o0 - (1 : Int))))) rfl rfl rfl rfl ?_;refine Zg (.int .i64 ((w64 (o0 - (1 : Int))))) rfl rfl ?_;exact Zb (Zd (hk2 (t5, (w64 (o0 - (1 : Int)))) _ _ ⟨bE, hfr, nB, oB, vB, rfl⟩ h))
def f70 (x0 : List Gr) (x1 : Int) (x2 : Gr → Int → Option Int) : Option (Int × Bool) :=
 Option.bind (α := Int) (
  lp (σ := Int × Int) (fun k14 (i6, l5) =>
   jn (σ := Unit) (fun _ =>
    (Hz ((Qk (w64 (i6 + l5)))) ((1 : Int))).bind fun g8 =>
    (idx x0 (w64 g8)).bind fun xE =>
    (x2 xE x1).bind fun yD =>
    bif (decide (yD < (0 : Int))) then
     k14 ((w64 ((w64 g8) + (1 : Int))), l5)
    else
     k14 (i6, (w64 g8))
    ) fun yE =>
   bif (decide (i6 < l5)) then
    yE ()
   else
    some (i6)
   ) big ((0 : Int), ((x0).length : Int))
  ) fun o0 =>
 Option.bind (α := Int × Bool) (
  bif (decide (o0 < ((x0).length : Int))) then
   (idx x0 o0).bind fun zE =>
   (x2 zE x1).bind fun nB =>
   some (o0, (nB == (0 : Int)))
  else
   some (o0, false)
  ) fun (n8, v8) =>
 some (n8, v8)
theorem en70 : Enters Try.prog 70 := enters_of Try.func70 (by kernel_rfl) rfl
theorem wk70 {gI : Gh} {wI : World} {x0 : List Gr} {x1 : Int} {x2 : Gr → Int → Option Int} {up0 : Value} (rp0 : RV gI.m wI x0 up0) {up2 : Value} (rp2 : Ui Try.prog x2 up2 gI wI) {r : Int × Bool} (h : f70 x0 x1 x2 = some r) : Fn Try.prog 70 #[up0, .int .i64 (x1), up2] gI wI (fun m w v => ∃ y0 y1, v = .tuple #[y0, y1] ∧ y0 = .int .i64 (r.1) ∧ y1 = .bool (r.2)) := by
 unfold f70 at h;refine Gw Try.func70 rfl (Nat.le_of_ble_eq_true rfl) fun g0 hm hfr => ?_;have rp0 : RV g0.m wI x0 up0 := hm ▸ rp0;obtain ⟨ff2, fa2, fc2, rfl, fen2, fcl2⟩ := rp2;show E _ 49 none _ _ _ _ _;refine Zf (Za (Zg (.int .i64 (0)) rfl rfl ?_));refine Zg (.bool false) rfl rfl ?_;refine Zb (Zd (Zf (Za (Zn up0 rfl rfl ?_))));refine Zw (.int .i64 ((x0).length : Int)) (Tu Try.underlying35 rfl rp0) rfl ?_;refine Zg (.int .i64 ((x0).length : Int)) rfl rfl ?_;refine Zb (Zd (Zf (Za (Zn (.int .i64 ((x0).length : Int)) rfl rfl ?_))));refine Zg (.int .i64 (0)) rfl rfl ?_;refine Zg (.int .i64 ((x0).length : Int)) rfl rfl ?_;refine Zb (Zd ?_);obtain ⟨o0, hx, h⟩ := Ga h;refine Gp (fun e w => ∃ (g : Gh) , Fr gI wI g w ∧ e 0 = up0 ∧ RV g.m w (x0 : List Gr) up0 ∧ e 1 = .int .i64 (x1) ∧ e 2 = (.func (.func ff2) fa2 fc2) ∧ e 8 = .int .i64 (((x0).length : Int)) ∧ e 9 = .int .i64 (o0)) (fun Q' hQ => ?_) (fun eG kG hR => ?_)
 ·replace h := hx
  clear hx;refine Zr ?_;refine Wv h (fun (s : Int × Int) e w => ∃ (g : Gh) , Fr gI wI g w ∧ e 0 = up0 ∧ RV g.m w (x0 : List Gr) up0 ∧ e 1 = .int .i64 (x1) ∧ e 2 = (.func (.func ff2) fa2 fc2) ∧ e 8 = .int .i64 (((x0).length : Int)) ∧ e 9 = .int .i64 (s.1) ∧ e 10 = .int .i64 (s.2)) ⟨g0, hfr, rfl, rp0, rfl, rfl, rfl, rfl, rfl⟩ (fun X14 k14 zD => ?_);rintro ⟨i6, l5⟩ gG w15 ⟨cF, hfr, cC, uC, vC, bD, cD, l9, oB⟩ h;refine Zq h (fun (s : Unit) e w => ∃ (g : Gh) , Fr gI wI g w ∧ e 0 = up0 ∧ RV g.m w (x0 : List Gr) up0 ∧ e 1 = .int .i64 (x1) ∧ e 2 = (.func (.func ff2) fa2 fc2) ∧ e 8 = .int .i64 (((x0).length : Int)) ∧ e 9 = .int .i64 (i6) ∧ e 10 = .int .i64 (l5)) (fun X17 yE rF h => ?_) ?_
  ·refine Zf (Za (Zo l9 rfl ?_))
   refine Zo oB rfl ?_;refine Gg (.bool ((decide (i6 < l5)))) rfl rfl rfl rfl ?_;refine Zb (Zd ?_);rcases Zt h with ⟨yB, h⟩ | ⟨yB, h⟩
   ·refine Tn yB rfl ?_
    exact Zu (Zd (rF () _ _ ⟨cF, hfr, cC, uC, vC, bD, cD, l9, oB⟩ h))
   ·refine To yB rfl ?_
    refine Qc ?_;refine Tf ?_;refine Tf ?_;refine Tl ?_;obtain rfl := sinj h;exact hQ _ _ ⟨cF, hfr, cC, uC, vC, bD, cD, l9⟩
  ·rintro _ iG lG ⟨dF, hfr, n9, l8, aB, lB, lD, nD, vB⟩ h
   refine Zr ?_;refine Zf (Za (Zo nD rfl ?_));refine Zo vB rfl ?_;refine Gg (.int .i64 ((w64 (i6 + l5)))) rfl rfl rfl rfl ?_;refine Zw (.int .u64 (Qk (w64 (i6 + l5)))) (Jh Try.underlying3 Try.underlying62 rfl) rfl ?_;obtain ⟨g8, hy20, h⟩ := Ga h;refine Zw (.int .u64 (g8)) (Hw rfl rfl hy20) rfl ?_;refine Zw (.int .i64 ((w64 g8))) (Yw Try.underlying62 Try.underlying3 rfl) rfl ?_;refine Zg (.int .i64 ((w64 g8))) rfl rfl ?_;refine Zb (Zd (Zf (Za (Zo lB rfl ?_))));refine Zo n9 rfl ?_;refine Zn (.int .i64 ((w64 g8))) rfl rfl ?_;obtain ⟨xE, aE, h⟩ := Ga h;refine Zw (Ty up0 (w64 g8) 2) (Zh (α := Gr) Try.underlying35 Try.sizeOf64 rfl l8 rfl aE) rfl ?_;have uF := Tp l8 aE;refine Ze .plain rfl (Gf (g := dF) Try.isAgg64 Try.sizeOf64 rfl uF fun vF xF => ?_);refine Zo aB rfl ?_;obtain ⟨yD, sF, h⟩ := Ga h;refine Ze .plain rfl (Yp (g := dF) (vs := [vF, .int .i64 (x1)]) rfl fen2 (.cons rfl (.cons rfl .nil)) (fcl2 _ _ hfr.ch _ _ _ _ _  xF (Zj.2 rfl) sF) fun eF mG sG hs hr => ?_);have hfr := hfr.ext hs;have l8 := l8.ext hs;obtain rfl := Zj.1 hr;refine Gg (.bool ((decide (yD < (0 : Int))))) rfl rfl rfl rfl ?_;refine Zb (Zd ?_);rcases Zt h with ⟨zB, h⟩ | ⟨zB, h⟩
   ·refine Tn zB rfl ?_
    refine Za (Zn (.int .i64 ((w64 g8))) rfl rfl ?_);refine Gg (.int .i64 ((w64 ((w64 g8) + (1 : Int))))) rfl rfl rfl rfl ?_;refine Zg (.int .i64 ((w64 ((w64 g8) + (1 : Int))))) rfl rfl ?_;exact Zb (Ts (Zd (zD ((w64 ((w64 g8) + (1 : Int))), l5) _ _ ⟨eF, hfr, n9, l8, aB, lB, lD, rfl, vB⟩ h)))
   ·refine To zB rfl ?_
    refine Za (Zn (.int .i64 ((w64 g8))) rfl rfl ?_);refine Zg (.int .i64 ((w64 g8))) rfl rfl ?_;exact Zb (Ts (Zd (zD (i6, (w64 g8)) _ _ ⟨eF, hfr, n9, l8, aB, lB, lD, nD, rfl⟩ h)))
 ·clear hx
  obtain ⟨bE, hfr, lE, oD, mE, oE, rE, mB⟩ := hR;obtain ⟨⟨n8, v8⟩, hx, h⟩ := Ga h;refine Gp (fun e w => ∃ (g : Gh) , Fr gI wI g w ∧ e 6 = .int .i64 (n8) ∧ e 7 = .bool (v8)) (fun Q' hQ => ?_) (fun jG xG hR => ?_)
  ·replace h := hx
   clear hx;refine Za (Zo mB rfl ?_);refine Zo mB rfl ?_;refine Zo rE rfl ?_;refine Gg (.bool ((decide (o0 < ((x0).length : Int))))) rfl rfl rfl rfl ?_;refine Zn (.bool ((decide (o0 < ((x0).length : Int))))) rfl rfl ?_;rcases Zt h with ⟨t5, h⟩ | ⟨t5, h⟩
   ·refine Zx ((.func (.func ff2) fa2 fc2)) (Zk oE) rfl rfl t5 rfl ?_
    refine Zx up0 (Zk lE) rfl rfl t5 rfl ?_;refine Zx (.int .i64 (o0)) (Zk mB) rfl rfl t5 rfl ?_;obtain ⟨zE, iE, h⟩ := Ga h;refine Zx (Ty up0 o0 2) (Zh (α := Gr) Try.underlying35 Try.sizeOf64 rfl oD rfl iE) rfl rfl t5 rfl ?_;have yF := Tp oD iE;refine Ze (.yes2 rfl rfl t5) rfl (Gf (g := bE) Try.isAgg64 Try.sizeOf64 rfl yF fun aG bG => ?_);refine Zx (.int .i64 (x1)) (Zk mE) rfl rfl t5 rfl ?_;obtain ⟨nB, tF, h⟩ := Ga h;refine Ze (.yes2 rfl rfl t5) rfl (Yp (g := bE) (vs := [aG, .int .i64 (x1)]) rfl fen2 (.cons rfl (.cons rfl .nil)) (fcl2 _ _ hfr.ch _ _ _ _ _  bG (Zj.2 rfl) tF) fun cG yG zG hs hr => ?_);have hfr := hfr.ext hs;obtain rfl := Zj.1 hr;refine Zx (.bool ((nB == (0 : Int)))) (Gj rfl rfl rfl) rfl rfl t5 rfl ?_;refine Zw (.bool ((nB == (0 : Int)))) (Zl (b := (decide (o0 < ((x0).length : Int)))) rfl (Tg t5 rfl)) rfl ?_;refine Zg (.int .i64 (o0)) rfl rfl ?_;refine Zg (.bool ((nB == (0 : Int)))) rfl rfl ?_;refine Zb ?_;obtain ⟨rfl, rfl⟩ := Hn h;exact hQ _ _ ⟨cG, hfr, rfl, rfl⟩
   ·refine Zy rfl rfl t5 rfl rfl ?_
    iterate 7 refine Zy rfl rfl t5 rfl rfl ?_
    refine Zw (.bool false) (Zl (b := (decide (o0 < ((x0).length : Int)))) rfl (Tq t5 rfl)) rfl ?_;refine Zg (.int .i64 (o0)) rfl rfl ?_;refine Zg (.bool false) rfl rfl ?_;refine Zb ?_;obtain ⟨rfl, rfl⟩ := Hn h;exact hQ _ _ ⟨bE, hfr, rfl, rfl⟩
  ·clear hx
   obtain ⟨aH, hfr, uE, vE⟩ := hR;refine Gq ?_;obtain rfl := sinj h;exact Bc rfl rfl (show _ = .int .i64 (n8) from uE) (show _ = .bool (v8) from vE) ⟨_, hfr, _, _, rfl, rfl, rfl⟩
def f75 (x0 : Int) : Option (Bool) :=
 some ((x0 != x0))
theorem en75 : Enters Try.prog 75 := enters_of Try.func75 (by kernel_rfl) rfl
theorem wk75 {gI : Gh} {wI : World} {x0 : Int}  {r : Bool} (h : f75 x0 = some r) : Fn Try.prog 75 #[.int .i64 (x0)] gI wI (fun _ _ v => v = .bool (r)) := by
 unfold f75 at h;refine Gw Try.func75 rfl (Nat.le_of_ble_eq_true rfl) fun g0 hm hfr => ?_;show E _ 6 none _ _ _ _ _;refine Zf (Za (Zg (.bool false) rfl rfl ?_));refine Zb (Zd (Zf (Za (Zn (.int .i64 (x0)) rfl rfl ?_))));refine Zn (.int .i64 (x0)) rfl rfl ?_;refine Gg (.bool ((x0 != x0))) rfl rfl rfl rfl ?_;refine Zg (.bool ((x0 != x0))) rfl rfl ?_;refine Zb (Zd (Gq ?_));obtain rfl := sinj h;exact Qr rfl rfl (show _ = .bool ((x0 != x0)) from rfl) ⟨_, hfr, rfl⟩
def f77 (x0 : Gu) : Option ((List Qz)) :=
 Option.bind (α := (List Qz)) (
  lp (σ := (List Qz) × Int) (fun lH (uC, o0) =>
   bif (decide (o0 < ((((x0).PayTable).Rows).length : Int))) then
    Option.bind (α := (List Qz)) (
     (idx (((x0).PayTable).Rows) o0).bind fun v8 =>
     lp (σ := (List Qz) × Int) (fun mH (nB, l5) =>
      bif (decide (l5 < ((v8).length : Int))) then
       Option.bind (α := (List Qz)) (
        (idx v8 l5).bind fun oD =>
        bif (oD == (-1 : Int)) then
         (apnd 16 nB (([(⟨o0, l5⟩ : Qz)] : List Qz))).bind fun tF =>
         some (tF)
        else
         some (nB)
        ) fun g8 =>
       mH (g8, (w64 (l5 + (1 : Int))))
      else
       some (nB)
      ) big (uC, (0 : Int))
     ) fun l8 =>
    lH (l8, (w64 (o0 + (1 : Int))))
   else
    some (uC)
   ) big ([], (0 : Int))
  ) fun l9 =>
 some (l9)
theorem en77 : Enters Try.prog 77 := enters_of Try.func77 (by kernel_rfl) rfl
theorem wk77 {gI : Gh} {wI : World} {x0 : Gu} {up0 : Value} (rp0 : RV gI.m wI x0 up0) {r : (List Qz)} (h : f77 x0 = some r) : Fn Try.prog 77 #[up0] gI wI (fun m w v => RV m w (r) v) := by
 unfold f77 at h;refine Gw Try.func77 rfl (Nat.le_of_ble_eq_true rfl) fun g0 hm hfr => ?_;have rp0 : RV g0.m wI x0 up0 := hm ▸ rp0;show E _ 34 none _ _ _ _ _;refine Zf (Za (Ze .plain rfl (Qs (g := g0) rfl rp0 fun g1 w1 p1 hs q1 => ?_)));have hfr := hfr.ext hs;refine Zg (.slice none 0 0) rfl rfl ?_;refine Zb (Zd ?_);obtain ⟨l9, hx, h⟩ := Ga h;refine Gp (fun e w => ∃ (g : Gh) (v2 : Value), Fr gI wI g w ∧ e 2 = v2 ∧ RV g.m w (l9 : List Qz) v2 ∧ OS 1002 g w 157 (l9 : List Qz) v2) (fun Q' hQ => ?_) (fun mI qI hR => ?_)
 ·replace h := hx
  clear hx;refine Zf (Za (Zw (Gk p1 0) (Zc Qi rfl (PT.ptr q1)) rfl ?_));have nH := Zm (Ta).1 q1;refine Zw (Gk (Gk p1 0) 0) (Zc Kk rfl (PT.ptr nH)) rfl ?_;have iI := Zm (Qv).1 nH;refine Ze .plain rfl (Gf (g := g1) Try.isAgg76 Try.sizeOf76 rfl iI fun n9 oH => ?_);refine Zw (.int .i64 ((((x0).PayTable).Rows).length : Int)) (Tu Try.underlying76 rfl oH) rfl ?_;refine Zn (.int .i64 (0)) rfl rfl ?_;refine Zb (Zd (Zr ?_));refine Wv h (fun (s : (List Qz) × Int) e w => ∃ (g : Gh) (v2 : Value), Fr gI wI g w ∧ e 2 = v2 ∧ RV g.m w (s.1 : List Qz) v2 ∧ OS 1002 g w 157 (s.1 : List Qz) v2 ∧ e 9 = n9 ∧ RV g.m w (((x0).PayTable).Rows : List (List Int)) n9 ∧ e 10 = .int .i64 (((((x0).PayTable).Rows).length : Int)) ∧ e 11 = .int .i64 (s.2)) ⟨g1, (.slice none 0 0), hfr, rfl, He, OS.nil, rfl, oH, rfl, rfl⟩ (fun X58 lH qH => ?_);rintro ⟨uC, o0⟩ sI rJ ⟨uF, lE, hfr, mE, oE, rE, uE, vC, yD, aB⟩ h;refine Zf (Za (Zw (.bool ((decide (o0 < ((((x0).PayTable).Rows).length : Int))))) (Gj aB yD rfl) rfl ?_));refine Zb (Zd (Zf ?_));rcases Zt h with ⟨bE, h⟩ | ⟨bE, h⟩
  ·refine Tn bE rfl ?_
   refine Zu (Zd ?_);obtain ⟨l8, hx, h⟩ := Ga h;refine Gp (fun e w => ∃ (g : Gh) (v2 : Value), Fr gI wI g w ∧ e 2 = v2 ∧ RV g.m w (l8 : List Qz) v2 ∧ OS 1002 g w 157 (l8 : List Qz) v2 ∧ e 9 = n9 ∧ RV g.m w (((x0).PayTable).Rows : List (List Int)) n9 ∧ e 10 = .int .i64 (((((x0).PayTable).Rows).length : Int)) ∧ e 11 = .int .i64 (o0)) (fun Q' hQ => ?_) (fun nI jJ hR => ?_)
   ·replace h := hx
    clear hx;refine Zr ?_;refine Zf (Za (Zo aB rfl ?_));obtain ⟨v8, vF, h⟩ := Ga h;refine Zw (Ty n9 o0 1) (Zh (α := List Int) Try.underlying76 Try.sizeOf31 uE vC aB vF) rfl ?_;have jI := Tp vC vF;refine Ze .plain rfl (Gf (g := uF) Try.isAgg31 Try.sizeOf31 rfl jI fun oB pH => ?_);refine Zg (.int .i64 (o0)) rfl rfl ?_;refine Zg oB rfl rfl ?_;refine Zb (Zd (Zf (Za (Zn oB rfl rfl ?_))));refine Zw (.int .i64 ((v8).length : Int)) (Tu Try.underlying31 rfl pH) rfl ?_;refine Zn (.int .i64 (0)) rfl rfl ?_;refine Zb (Zd (Zr ?_));refine Wv h (fun (s : (List Qz) × Int) e w => ∃ (g : Gh) (v2 : Value), Fr gI wI g w ∧ e 2 = v2 ∧ RV g.m w (s.1 : List Qz) v2 ∧ OS 1002 g w 157 (s.1 : List Qz) v2 ∧ e 3 = .int .i64 (o0) ∧ e 9 = n9 ∧ RV g.m w (((x0).PayTable).Rows : List (List Int)) n9 ∧ e 10 = .int .i64 (((((x0).PayTable).Rows).length : Int)) ∧ e 11 = .int .i64 (o0) ∧ e 16 = oB ∧ RV g.m w (v8 : List Int) oB ∧ e 17 = .int .i64 (((v8).length : Int)) ∧ e 18 = .int .i64 (s.2)) ⟨uF, (lE), hfr, mE, oE, rE, rfl, uE, vC, yD, aB, rfl, pH, rfl, rfl⟩ (fun X88 mH sH => ?_);rintro ⟨nB, l5⟩ kJ kI ⟨zD, vE, hfr, bD, lB, mB, cD, lD, i6, vB, yB, zB, t5, cC, n8⟩ h;refine Zf (Za (Gg (.bool ((decide (l5 < ((v8).length : Int))))) n8 cC rfl rfl ?_));refine Zb (Zd (Zf ?_));rcases Zt h with ⟨iE, h⟩ | ⟨iE, h⟩
    ·refine Tn iE rfl ?_
     refine Zu (Zd ?_);obtain ⟨g8, hx, h⟩ := Ga h;refine Gp (fun e w => ∃ (g : Gh) (v2 : Value), Fr gI wI g w ∧ e 2 = v2 ∧ RV g.m w (g8 : List Qz) v2 ∧ OS 1002 g w 157 (g8 : List Qz) v2 ∧ e 3 = .int .i64 (o0) ∧ e 9 = n9 ∧ RV g.m w (((x0).PayTable).Rows : List (List Int)) n9 ∧ e 10 = .int .i64 (((((x0).PayTable).Rows).length : Int)) ∧ e 11 = .int .i64 (o0) ∧ e 16 = oB ∧ RV g.m w (v8 : List Int) oB ∧ e 17 = .int .i64 (((v8).length : Int)) ∧ e 18 = .int .i64 (l5)) (fun Q' hQ => ?_) (fun pI lJ hR => ?_)
     ·replace h := hx
      clear hx;refine Zr ?_;refine Zf (Za (Zo n8 rfl ?_));obtain ⟨oD, xF, h⟩ := Ga h;refine Zw (Ty oB l5 1) (Zh (α := Int) Try.underlying31 Try.sizeOf3 zB t5 n8 xF) rfl ?_;have tH := Tp t5 xF;refine Ze .plain rfl (Gf (g := zD) Try.isAgg3 Try.sizeOf3 rfl tH fun mJ uH => ?_);obtain rfl := Zj.1 uH;refine Zg (.int .i64 (l5)) rfl rfl ?_;refine Zg (.int .i64 (oD)) rfl rfl ?_;refine Zb (Zd (Zf (Za (Zn (.int .i64 (oD)) rfl rfl ?_))));refine Gg (.bool ((oD == (-1 : Int)))) rfl rfl rfl rfl ?_;refine Zb (Zd ?_);rcases Zt h with ⟨nD, h⟩ | ⟨nD, h⟩
      ·refine Tn nD rfl ?_
       refine Za (Zo bD rfl ?_);refine Zo cD rfl ?_;refine Zn (.int .i64 (l5)) rfl rfl ?_;have yF : RV zD.m kI (⟨o0, l5⟩ : Qz) (.agg (Qd [[.int .i64 0], [.int .i64 0]] [(0, .int .i64 (o0)), (1, .int .i64 (l5))]).flatten.toArray) := Qj rfl (Te (rfl) (Qh (rfl)));generalize jH : (Value.agg (Qd [[.int .i64 0], [.int .i64 0]] [(0, .int .i64 (o0)), (1, .int .i64 (l5))]).flatten.toArray) = aG at yF;refine Zw aG (jH ▸ Qu (vs := [(0, .int .i64 (o0)), (1, .int .i64 (l5))]) [[.int .i64 0], [.int .i64 0]] lay_157 rfl rfl (.cons rfl (.cons rfl .nil)) ⟨⟨_, rfl, rfl⟩, ⟨⟨_, rfl, rfl⟩, trivial⟩⟩) rfl ?_;refine Ze .plain rfl (Gl (g := zD) 3029 (xs := ([(⟨o0, l5⟩ : Qz)] : List Qz)) (vs := [aG]) Try.underlying140 Try.sizeOf157 Try.zeroValue157 rfl rfl (.cons rfl .nil) (RVs.cons yF RVs.nil) rfl rfl fun xH nJ oJ hs o104 yH hxt hfl => ?_);have hfr := hfr.stp hs;have lB := lB.stp hs;have mB := mB.stp hs rfl;have i6 := i6.stp hs;have t5 := t5.stp hs;obtain ⟨tF, kH, h⟩ := Ga h;refine Ze .plain rfl (Kg (g := xH) (i := 1002) Try.underlying140 Em rfl rfl mB lB rfl yH kH fun zH pJ bG hs o105 aI _ => ?_);have hfr := hfr.stp hs;have i6 := i6.stp hs;have t5 := t5.stp hs;refine Zg bG rfl rfl ?_;refine Zb (Ts ?_);obtain rfl := sinj h;exact hQ _ _ ⟨zH, (bG), hfr, rfl, aI, o105, cD, lD, i6, vB, yB, zB, t5, cC, n8⟩
      ·refine To nD rfl ?_
       refine Zu (Ts ?_);obtain rfl := sinj h;exact hQ _ _ ⟨zD, (vE), hfr, bD, lB, mB, cD, lD, i6, vB, yB, zB, t5, cC, n8⟩
     ·clear hx
      obtain ⟨bI, cG, hfr, eG, gG, iG, jG, kG, lG, xE, yE, zE, cF, dF, eF⟩ := hR;refine Za (Gg (.int .i64 ((w64 (l5 + (1 : Int))))) eF rfl rfl rfl ?_);refine Zn (.int .i64 ((w64 (l5 + (1 : Int))))) rfl rfl ?_;exact Zb (Zd (sH (g8, (w64 (l5 + (1 : Int)))) _ _ ⟨bI, (cG), hfr, eG, gG, iG, jG, kG, lG, xE, yE, zE, cF, dF, rfl⟩ h))
    ·refine To iE rfl ?_
     refine Qc ?_;refine Tf ?_;refine Tf ?_;refine Tl ?_;refine Ts ?_;obtain rfl := sinj h;exact hQ _ _ ⟨zD, (vE), hfr, bD, lB, mB, lD, i6, vB, yB⟩
   ·clear hx
    obtain ⟨dI, mG, hfr, sG, xG, yG, zG, aH, rF, sF⟩ := hR;refine Za (Gg (.int .i64 ((w64 (o0 + (1 : Int))))) sF rfl rfl rfl ?_);refine Zn (.int .i64 ((w64 (o0 + (1 : Int))))) rfl rfl ?_;exact Zb (Zd (qH (l8, (w64 (o0 + (1 : Int)))) _ _ ⟨dI, (mG), hfr, sG, xG, yG, zG, aH, rF, rfl⟩ h))
  ·refine To bE rfl ?_
   refine Qc ?_;refine Tf ?_;refine Tf ?_;refine Tl ?_;obtain rfl := sinj h;exact hQ _ _ ⟨uF, (lE), hfr, mE, oE, rE⟩
 ·clear hx
  obtain ⟨qJ, aE, hfr, cH, gH, lI⟩ := hR;refine Zf (Za (Zo cH rfl ?_));refine Zg aE rfl rfl ?_;refine Zb (Zd (Gq ?_));obtain rfl := sinj h;exact Qr rfl rfl (show _ = aE from rfl) ⟨_, hfr, gH⟩
def f78 (x0 : List Int) : Option (Int) :=
 Option.bind (α := Int) (
  lp (σ := Int × Int) (fun uC (l5, o0) =>
   bif (decide (o0 < ((x0).length : Int))) then
    Option.bind (α := Int) (
     (idx x0 o0).bind fun g8 =>
     some ((w64 (l5 + g8)))
     ) fun i6 =>
    uC (i6, (w64 (o0 + (1 : Int))))
   else
    some (l5)
   ) big ((0 : Int), (0 : Int))
  ) fun t5 =>
 some (t5)
theorem en78 : Enters Try.prog 78 := enters_of Try.func78 (by kernel_rfl) rfl
theorem wk78 {gI : Gh} {wI : World} {x0 : List Int} {up0 : Value} (rp0 : RV gI.m wI x0 up0) {r : Int} (h : f78 x0 = some r) : Fn Try.prog 78 #[up0] gI wI (fun _ _ v => v = .int .i64 (r)) := by
 unfold f78 at h;refine Gw Try.func78 rfl (Nat.le_of_ble_eq_true rfl) fun g0 hm hfr => ?_;have rp0 : RV g0.m wI x0 up0 := hm ▸ rp0;show E _ 16 none _ _ _ _ _;refine Zf (Za (Zg (.int .i64 (0)) rfl rfl ?_));refine Zb (Zd ?_);obtain ⟨t5, hx, h⟩ := Ga h;refine Gp (fun e w => ∃ (g : Gh) , Fr gI wI g w ∧ e 2 = .int .i64 (t5)) (fun Q' hQ => ?_) (fun nD zD hR => ?_)
 ·replace h := hx
  clear hx;refine Zf (Za (Zn up0 rfl rfl ?_));refine Zw (.int .i64 ((x0).length : Int)) (Tu Try.underlying31 rfl rp0) rfl ?_;refine Zn (.int .i64 (0)) rfl rfl ?_;refine Zb (Zd (Zr ?_));refine Wv h (fun (s : Int × Int) e w => ∃ (g : Gh) , Fr gI wI g w ∧ e 2 = .int .i64 (s.1) ∧ e 5 = up0 ∧ RV g.m w (x0 : List Int) up0 ∧ e 6 = .int .i64 (((x0).length : Int)) ∧ e 7 = .int .i64 (s.2)) ⟨g0, hfr, rfl, rfl, rp0, rfl, rfl⟩ (fun X11 uC vC => ?_);rintro ⟨l5, o0⟩ oD aE ⟨lB, hfr, l9, n9, l8, aB, n8⟩ h;refine Zf (Za (Gg (.bool ((decide (o0 < ((x0).length : Int))))) n8 aB rfl rfl ?_));refine Zb (Zd (Zf ?_));rcases Zt h with ⟨v8, h⟩ | ⟨v8, h⟩
  ·refine Tn v8 rfl ?_
   refine Zu (Zd ?_);obtain ⟨i6, hx, h⟩ := Ga h;refine Gp (fun e w => ∃ (g : Gh) , Fr gI wI g w ∧ e 2 = .int .i64 (i6) ∧ e 5 = up0 ∧ RV g.m w (x0 : List Int) up0 ∧ e 6 = .int .i64 (((x0).length : Int)) ∧ e 7 = .int .i64 (o0)) (fun Q' hQ => ?_) (fun yD bE hR => ?_)
   ·replace h := hx
    clear hx;refine Zr ?_;refine Zf (Za ?_);obtain ⟨g8, mB, h⟩ := Ga h;refine Zw (Ty up0 o0 1) (Zh (α := Int) Try.underlying31 Try.sizeOf3 n9 l8 n8 mB) rfl ?_;have bD := Tp l8 mB;refine Ze .plain rfl (Gf (g := lB) Try.isAgg3 Try.sizeOf3 rfl bD fun iE cD => ?_);obtain rfl := Zj.1 cD;refine Zg (.int .i64 (g8)) rfl rfl ?_;refine Zb (Zd (Za (Zo l9 rfl ?_)));refine Zn (.int .i64 (g8)) rfl rfl ?_;refine Gg (.int .i64 ((w64 (l5 + g8)))) rfl rfl rfl rfl ?_;refine Zg (.int .i64 ((w64 (l5 + g8)))) rfl rfl ?_;refine Zb (Ts ?_);obtain rfl := sinj h;exact hQ _ _ ⟨lB, hfr, rfl, n9, l8, aB, n8⟩
   ·clear hx
    obtain ⟨lD, hfr, nB, oB, vB, yB, zB⟩ := hR;refine Za (Gg (.int .i64 ((w64 (o0 + (1 : Int))))) zB rfl rfl rfl ?_);refine Zn (.int .i64 ((w64 (o0 + (1 : Int))))) rfl rfl ?_;exact Zb (Zd (vC (i6, (w64 (o0 + (1 : Int)))) _ _ ⟨lD, hfr, nB, oB, vB, yB, rfl⟩ h))
  ·refine To v8 rfl ?_
   refine Qc ?_;refine Tf ?_;refine Tf ?_;refine Tl ?_;obtain rfl := sinj h;exact hQ _ _ ⟨lB, hfr, l9⟩
 ·clear hx
  obtain ⟨lE, hfr, cC⟩ := hR;refine Zf (Za (Zo cC rfl ?_));refine Zg (.int .i64 (t5)) rfl rfl ?_;refine Zb (Zd (Gq ?_));obtain rfl := sinj h;exact Qr rfl rfl (show _ = .int .i64 (t5) from rfl) ⟨_, hfr, rfl⟩
def f79 (x0 : Gu) (x1 : Int) : Option ((List Int)) :=
 Option.bind (α := (List Int)) (
  lp (σ := (List Int) × Int) (fun mE (v8, o0) =>
   bif (decide (o0 < ((((x0).PayTable).Rows).length : Int))) then
    Option.bind (α := (List Int)) (
     (idx (((x0).PayTable).Rows) o0).bind fun oE =>
     (idx oE x1).bind fun lB =>
     (apnd 8 v8 (([lB] : List Int))).bind fun rE =>
     some (rE)
     ) fun t5 =>
    mE (t5, (w64 (o0 + (1 : Int))))
   else
    some (v8)
   ) big ([], (0 : Int))
  ) fun i6 =>
 some (i6)
theorem en79 : Enters Try.prog 79 := enters_of Try.func79 (by kernel_rfl) rfl
theorem wk79 {gI : Gh} {wI : World} {x0 : Gu} {x1 : Int} {up0 : Value} (rp0 : RV gI.m wI x0 up0) {r : (List Int)} (h : f79 x0 x1 = some r) : Fn Try.prog 79 #[up0, .int .i64 (x1)] gI wI (fun m w v => RV m w (r) v) := by
 unfold f79 at h;refine Gw Try.func79 rfl (Nat.le_of_ble_eq_true rfl) fun g0 hm hfr => ?_;have rp0 : RV g0.m wI x0 up0 := hm ▸ rp0;show E _ 24 none _ _ _ _ _;refine Zf (Za (Ze .plain rfl (Qs (g := g0) rfl rp0 fun g1 w1 p1 hs q1 => ?_)));have hfr := hfr.ext hs;refine Zg (.slice none 0 0) rfl rfl ?_;refine Zb (Zd ?_);obtain ⟨i6, hx, h⟩ := Ga h;refine Gp (fun e w => ∃ (g : Gh) (v4 : Value), Fr gI wI g w ∧ e 4 = v4 ∧ RV g.m w (i6 : List Int) v4 ∧ OS 1004 g w 3 (i6 : List Int) v4) (fun Q' hQ => ?_) (fun bG gG hR => ?_)
 ·replace h := hx
  clear hx;refine Zf (Za (Zw (Gk p1 0) (Zc Qi rfl (PT.ptr q1)) rfl ?_));have uE := Zm (Ta).1 q1;refine Zw (Gk (Gk p1 0) 0) (Zc Kk rfl (PT.ptr uE)) rfl ?_;have dF := Zm (Qv).1 uE;refine Ze .plain rfl (Gf (g := g1) Try.isAgg76 Try.sizeOf76 rfl dF fun l9 vE => ?_);refine Zw (.int .i64 ((((x0).PayTable).Rows).length : Int)) (Tu Try.underlying76 rfl vE) rfl ?_;refine Zn (.int .i64 (0)) rfl rfl ?_;refine Zb (Zd (Zr ?_));refine Wv h (fun (s : (List Int) × Int) e w => ∃ (g : Gh) (v4 : Value), Fr gI wI g w ∧ e 1 = .int .i64 (x1) ∧ e 4 = v4 ∧ RV g.m w (s.1 : List Int) v4 ∧ OS 1004 g w 3 (s.1 : List Int) v4 ∧ e 9 = l9 ∧ RV g.m w (((x0).PayTable).Rows : List (List Int)) l9 ∧ e 10 = .int .i64 (((((x0).PayTable).Rows).length : Int)) ∧ e 11 = .int .i64 (s.2)) ⟨g1, (.slice none 0 0), hfr, rfl, rfl, He, OS.nil, rfl, vE, rfl, rfl⟩ (fun X30 mE zE => ?_);rintro ⟨v8, o0⟩ cG iG ⟨mB, cD, hfr, nB, oB, g8, l8, vB, l5, n9, n8⟩ h;refine Zf (Za (Zw (.bool ((decide (o0 < ((((x0).PayTable).Rows).length : Int))))) (Gj n8 n9 rfl) rfl ?_));refine Zb (Zd (Zf ?_));rcases Zt h with ⟨aB, h⟩ | ⟨aB, h⟩
  ·refine Tn aB rfl ?_
   refine Zu (Zd ?_);obtain ⟨t5, hx, h⟩ := Ga h;refine Gp (fun e w => ∃ (g : Gh) (v4 : Value), Fr gI wI g w ∧ e 1 = .int .i64 (x1) ∧ e 4 = v4 ∧ RV g.m w (t5 : List Int) v4 ∧ OS 1004 g w 3 (t5 : List Int) v4 ∧ e 9 = l9 ∧ RV g.m w (((x0).PayTable).Rows : List (List Int)) l9 ∧ e 10 = .int .i64 (((((x0).PayTable).Rows).length : Int)) ∧ e 11 = .int .i64 (o0)) (fun Q' hQ => ?_) (fun eG jG hR => ?_)
   ·replace h := hx
    clear hx;refine Zr ?_;refine Zf (Za ?_);obtain ⟨oE, zB, h⟩ := Ga h;refine Zw (Ty l9 o0 1) (Zh (α := List Int) Try.underlying76 Try.sizeOf31 vB l5 n8 zB) rfl ?_;have eF := Tp l5 zB;refine Ze .plain rfl (Gf (g := mB) Try.isAgg31 Try.sizeOf31 rfl eF fun cC xE => ?_);refine Zg cC rfl rfl ?_;refine Zb (Zd (Za (Zo oB rfl ?_)));refine Zn cC rfl rfl ?_;refine Zo nB rfl ?_;obtain ⟨lB, uC, h⟩ := Ga h;refine Zw (Ty cC x1 1) (Zh (α := Int) Try.underlying31 Try.sizeOf3 rfl xE rfl uC) rfl ?_;have rF := Tp xE uC;refine Ze .plain rfl (Gf (g := mB) Try.isAgg3 Try.sizeOf3 rfl rF fun kG sF => ?_);obtain rfl := Zj.1 sF;refine Ze .plain rfl (Gl (g := mB) 3020 (xs := ([lB] : List Int)) (vs := [.int .i64 (lB)]) Try.underlying31 Try.sizeOf3 Try.zeroValue3 rfl rfl (.cons rfl .nil) (RVs.cons (Zj.2 rfl) RVs.nil) rfl rfl fun tF lG mG hs o48 uF hxt hfl => ?_);have hfr := hfr.stp hs;have g8 := g8.stp hs;have l8 := l8.stp hs rfl;have l5 := l5.stp hs;obtain ⟨rE, cF, h⟩ := Ga h;refine Ze .plain rfl (Kg (g := tF) (i := 1004) Try.underlying31 Hi rfl rfl l8 g8 rfl uF cF fun vF sG yE hs o49 xF _ => ?_);have hfr := hfr.stp hs;have l5 := l5.stp hs;refine Zg yE rfl rfl ?_;refine Zb (Ts ?_);obtain rfl := sinj h;exact hQ _ _ ⟨vF, (yE), hfr, nB, rfl, xF, o49, vB, l5, n9, n8⟩
   ·clear hx
    obtain ⟨yF, lD, hfr, nD, oD, yD, zD, aE, bE, vC, bD⟩ := hR;refine Za (Gg (.int .i64 ((w64 (o0 + (1 : Int))))) bD rfl rfl rfl ?_);refine Zn (.int .i64 ((w64 (o0 + (1 : Int))))) rfl rfl ?_;exact Zb (Zd (zE (t5, (w64 (o0 + (1 : Int)))) _ _ ⟨yF, (lD), hfr, nD, oD, yD, zD, aE, bE, vC, rfl⟩ h))
  ·refine To aB rfl ?_
   refine Qc ?_;refine Tf ?_;refine Tf ?_;refine Tl ?_;obtain rfl := sinj h;exact hQ _ _ ⟨mB, (cD), hfr, oB, g8, l8⟩
 ·clear hx
  obtain ⟨xG, yB, hfr, iE, lE, aG⟩ := hR;refine Zf (Za (Zo iE rfl ?_));refine Zg yB rfl rfl ?_;refine Zb (Zd (Gq ?_));obtain rfl := sinj h;exact Qr rfl rfl (show _ = yB from rfl) ⟨_, hfr, lE⟩
def f80 (x0 : List Gc) (x1 : Gc → Option Bool) : Option (Int) :=
 jn (σ := Unit) (fun _ =>
  some ((-1 : Int))
  ) fun k18 =>
 lp (σ := Int) (fun k19 o0 =>
  bif (decide (o0 < ((x0).length : Int))) then
   jn (σ := Unit) (fun _ =>
    k19 ((w64 (o0 + (1 : Int))))
    ) fun k28 =>
   (idx x0 o0).bind fun vB =>
   (x1 vB).bind fun yB =>
   bif yB then
    some (o0)
   else
    k28 ()
  else
   k18 ()
  ) big ((0 : Int))
theorem en80 : Enters Try.prog 80 := enters_of Try.func80 (by kernel_rfl) rfl
theorem wk80 {gI : Gh} {wI : World} {x0 : List Gc} {x1 : Gc → Option Bool} {up0 : Value} (rp0 : RV gI.m wI x0 up0) {up1 : Value} (rp1 : Sq Try.prog x1 up1 gI wI) {r : Int} (h : f80 x0 x1 = some r) : Fn Try.prog 80 #[up0, up1] gI wI (fun _ _ v => v = .int .i64 (r)) := by
 unfold f80 at h;refine Gw Try.func80 rfl (Nat.le_of_ble_eq_true rfl) fun g0 hm hfr => ?_;have rp0 : RV g0.m wI x0 up0 := hm ▸ rp0;obtain ⟨ff1, fa1, fc1, rfl, fen1, fcl1⟩ := rp1;show E _ 19 none _ _ _ _ _;refine Zf (Za (Zg (.int .i64 (0)) rfl rfl ?_));refine Zb (Zd (Zq h (fun (s : Unit) e w => ∃ (g : Gh) , Fr gI wI g w) (fun X18 k18 zB h => ?_) ?_))
 ·refine Zf (Za (Zn up0 rfl rfl ?_))
  refine Zw (.int .i64 ((x0).length : Int)) (Tu Try.underlying25 rfl rp0) rfl ?_;refine Zn (.int .i64 (0)) rfl rfl ?_;refine Zb (Zd (Zr ?_));refine Wv h (fun (s : Int) e w => ∃ (g : Gh) , Fr gI wI g w ∧ e 0 = up0 ∧ RV g.m w (x0 : List Gc) up0 ∧ e 1 = (.func (.func ff1) fa1 fc1) ∧ e 7 = .int .i64 (((x0).length : Int)) ∧ e 8 = .int .i64 (s)) ⟨g0, hfr, rfl, rp0, rfl, rfl, rfl⟩ (fun X19 k19 cC => ?_);rintro o0 yD bE ⟨l9, hfr, l8, l5, n8, v8, t5⟩ h;refine Zf (Za (Gg (.bool ((decide (o0 < ((x0).length : Int))))) t5 v8 rfl rfl ?_));refine Zb (Zd (Zf ?_));rcases Zt h with ⟨i6, h⟩ | ⟨i6, h⟩
  ·refine Tn i6 rfl ?_
   refine Zu (Zd (Zq h (fun (s : Unit) e w => ∃ (g : Gh) , Fr gI wI g w ∧ e 0 = up0 ∧ RV g.m w (x0 : List Gc) up0 ∧ e 1 = (.func (.func ff1) fa1 fc1) ∧ e 7 = .int .i64 (((x0).length : Int)) ∧ e 8 = .int .i64 (o0)) (fun X28 k28 uC h => ?_) ?_))
   ·refine Zr ?_
    refine Zf (Za (Zo t5 rfl ?_));refine Zg (.int .i64 (o0)) rfl rfl ?_;refine Zb (Zd (Zf (Za (Zo n8 rfl ?_))));refine Zo l8 rfl ?_;refine Zn (.int .i64 (o0)) rfl rfl ?_;obtain ⟨vB, n9, h⟩ := Ga h;refine Zw (Ty up0 o0 3) (Zh (α := Gc) Try.underlying25 Try.sizeOf60 rfl l5 rfl n9) rfl ?_;have bD := Tp l5 n9;refine Ze .plain rfl (Gf (g := l9) Try.isAgg60 Try.sizeOf60 rfl bD fun cD lD => ?_);obtain ⟨yB, vC, h⟩ := Ga h;refine Ze .plain rfl (Yp (g := l9) (vs := [cD]) rfl fen1 (.cons rfl .nil) (fcl1 _ _ hfr.ch _ _ _  lD vC) fun nD iE lE hs hr => ?_);have hfr := hfr.ext hs;have l5 := l5.ext hs;obtain rfl := Kl.1 hr;refine Zb (Zd ?_);rcases Zt h with ⟨g8, h⟩ | ⟨g8, h⟩
    ·refine Tn g8 rfl ?_
     refine Zf (Za (Zn (.int .i64 (o0)) rfl rfl ?_));refine Zg (.int .i64 (o0)) rfl rfl ?_;refine Zb (Zd (Gq (Wd ?_)));refine Tz ?_;refine Tz ?_;refine Wd ?_;refine Tz ?_;obtain rfl := sinj h;exact Qr rfl rfl (show _ = .int .i64 (o0) from rfl) ⟨_, hfr, rfl⟩
    ·refine To g8 rfl ?_
     exact Zu (Ts (Zd (uC () _ _ ⟨nD, hfr, l8, l5, n8, v8, t5⟩ h)))
   ·rintro _ zD mE ⟨oD, hfr, aB, lB, mB, nB, oB⟩ h
    refine Za (Gg (.int .i64 ((w64 (o0 + (1 : Int))))) oB rfl rfl rfl ?_);refine Zn (.int .i64 ((w64 (o0 + (1 : Int))))) rfl rfl ?_;exact Zb (Zd (cC ((w64 (o0 + (1 : Int)))) _ _ ⟨oD, hfr, aB, lB, mB, nB, rfl⟩ h))
  ·refine To i6 rfl ?_
   refine Qc ?_;refine Tf ?_;refine Tf ?_;refine Tl ?_;exact Zd (zB () _ _ ⟨l9, hfr⟩ h)
 ·rintro _ aE oE ⟨rE, hfr⟩ h
  refine Zf (Za (Zg (.int .i64 (-1)) rfl rfl ?_));refine Zb (Zd (Gq ?_));obtain rfl := sinj h;exact Qr rfl rfl (show _ = .int .i64 (-1) from rfl) ⟨_, hfr, rfl⟩
def f81 (x0 : U64) : Option (U64) :=
 (Hz ((x0).n) ((8 : Int))).bind fun y1 =>
 (Ac (Qa .and ((x0).n) ((71777214294589695 : Int))) ((8 : Int))).bind fun y2 =>
 (Hz (Qa .or (Qa .and y1 ((71777214294589695 : Int))) y2) ((16 : Int))).bind fun y3 =>
 (Ac (Qa .and (Qa .or (Qa .and y1 ((71777214294589695 : Int))) y2) ((281470681808895 : Int))) ((16 : Int))).bind fun y4 =>
 (Hz (Qa .or (Qa .and y3 ((281470681808895 : Int))) y4) ((32 : Int))).bind fun y5 =>
 (Ac (Qa .or (Qa .and y3 ((281470681808895 : Int))) y4) ((32 : Int))).bind fun y6 =>
 some ((⟨Qa .or y5 y6⟩ : U64))
theorem en81 : Enters Try.prog 81 := enters_of Try.func81 (by kernel_rfl) rfl
theorem wk81 {gI : Gh} {wI : World} {x0 : U64}  {r : U64} (h : f81 x0 = some r) : Fn Try.prog 81 #[.int .u64 ((x0).n)] gI wI (fun _ _ v => v = .int .u64 ((r).n)) := by
 unfold f81 at h;refine Gw Try.func81 rfl (Nat.le_of_ble_eq_true rfl) fun g0 hm hfr => ?_;show E _ 22 none _ _ _ _ _;refine Zf (Za (Zg (.int .u64 (0)) rfl rfl ?_));refine Zb (Zd (Zf (Za (Zn (.int .u64 ((x0).n)) rfl rfl ?_))));obtain ⟨y1, hy1, h⟩ := Ga h;refine Zw (.int .u64 (y1)) (Hw rfl rfl hy1) rfl ?_;refine Zw (.int .u64 (Qa .and y1 ((71777214294589695 : Int)))) (Hk (by simp) rfl rfl) rfl ?_;refine Zn (.int .u64 ((x0).n)) rfl rfl ?_;refine Zw (.int .u64 (Qa .and ((x0).n) ((71777214294589695 : Int)))) (Hk (by simp) rfl rfl) rfl ?_;obtain ⟨y2, hy2, h⟩ := Ga h;refine Zw (.int .u64 (y2)) (Sc rfl rfl hy2) rfl ?_;refine Zw (.int .u64 (Qa .or (Qa .and y1 ((71777214294589695 : Int))) y2)) (Hk (by simp) rfl rfl) rfl ?_;refine Zg (.int .u64 (Qa .or (Qa .and y1 ((71777214294589695 : Int))) y2)) rfl rfl ?_;refine Zb (Zd (Zf (Za (Zn (.int .u64 (Qa .or (Qa .and y1 ((71777214294589695 : Int))) y2)) rfl rfl ?_))));obtain ⟨y3, hy3, h⟩ := Ga h;refine Zw (.int .u64 (y3)) (Hw rfl rfl hy3) rfl ?_;refine Zw (.int .u64 (Qa .and y3 ((281470681808895 : Int)))) (Hk (by simp) rfl rfl) rfl ?_;refine Zn (.int .u64 (Qa .or (Qa .and y1 ((71777214294589695 : Int))) y2)) rfl rfl ?_;refine Zw (.int .u64 (Qa .and (Qa .or (Qa .and y1 ((71777214294589695 : Int))) y2) ((281470681808895 : Int)))) (Hk (by simp) rfl rfl) rfl ?_;obtain ⟨y4, o0, h⟩ := Ga h;refine Zw (.int .u64 (y4)) (Sc rfl rfl o0) rfl ?_;refine Zw (.int .u64 (Qa .or (Qa .and y3 ((281470681808895 : Int))) y4)) (Hk (by simp) rfl rfl) rfl ?_;refine Zg (.int .u64 (Qa .or (Qa .and y3 ((281470681808895 : Int))) y4)) rfl rfl ?_;refine Zb (Zd (Zf (Za (Zn (.int .u64 (Qa .or (Qa .and y3 ((281470681808895 : Int))) y4)) rfl rfl ?_))));obtain ⟨y5, hy5, h⟩ := Ga h;refine Zw (.int .u64 (y5)) (Hw rfl rfl hy5) rfl ?_;refine Zn (.int .u64 (Qa .or (Qa .and y3 ((281470681808895 : Int))) y4)) rfl rfl ?_;obtain ⟨y6, l5, h⟩ := Ga h;refine Zw (.int .u64 (y6)) (Sc rfl rfl l5) rfl ?_;refine Zw (.int .u64 (Qa .or y5 y6)) (Hk (by simp) rfl rfl) rfl ?_;refine Zg (.int .u64 (Qa .or y5 y6)) rfl rfl ?_;refine Zb (Zd (Gq ?_));obtain rfl := sinj h;exact Qr rfl rfl (show _ = .int .u64 (Qa .or y5 y6) from rfl) ⟨_, hfr, rfl⟩
def f83 (x0 : U64) (x1 : U64) : Option (U64 × U64) :=
 (Hz ((x0).n) ((32 : Int))).bind fun y1 =>
 (Hz ((x1).n) ((32 : Int))).bind fun y2 =>
 (Hz (Qk ((Qa .and ((x0).n) ((4294967295 : Int))) * (Qa .and ((x1).n) ((4294967295 : Int))))) ((32 : Int))).bind fun y3 =>
 (Hz (Qk ((Qk (y1 * (Qa .and ((x1).n) ((4294967295 : Int))))) + y3)) ((32 : Int))).bind fun y4 =>
 (Hz (Qk ((Qa .and (Qk ((Qk (y1 * (Qa .and ((x1).n) ((4294967295 : Int))))) + y3)) ((4294967295 : Int))) + (Qk ((Qa .and ((x0).n) ((4294967295 : Int))) * y2)))) ((32 : Int))).bind fun y5 =>
 some ((⟨Qk ((Qk ((Qk (y1 * y2)) + y4)) + y5)⟩ : U64), (⟨Qk (((x0).n) * ((x1).n))⟩ : U64))
theorem en83 : Enters Try.prog 83 := enters_of Try.func83 (by kernel_rfl) rfl
theorem wk83 {gI : Gh} {wI : World} {x0 : U64} {x1 : U64}  {r : U64 × U64} (h : f83 x0 x1 = some r) : Fn Try.prog 83 #[.int .u64 ((x0).n), .int .u64 ((x1).n)] gI wI (fun m w v => ∃ y0 y1, v = .tuple #[y0, y1] ∧ y0 = .int .u64 ((r.1).n) ∧ y1 = .int .u64 ((r.2).n)) := by
 unfold f83 at h;refine Gw Try.func83 rfl (Nat.le_of_ble_eq_true rfl) fun g0 hm hfr => ?_;show E _ 51 none _ _ _ _ _;refine Zf (Za (Zg (.int .u64 (0)) rfl rfl ?_));refine Zg (.int .u64 (0)) rfl rfl ?_;refine Zb (Zd (Zf (Za (Zn (.int .u64 ((x0).n)) rfl rfl ?_))));refine Zw (.int .u64 (Qa .and ((x0).n) ((4294967295 : Int)))) (Hk (by simp) rfl rfl) rfl ?_;refine Zg (.int .u64 (Qa .and ((x0).n) ((4294967295 : Int)))) rfl rfl ?_;refine Zb (Zd (Zf (Za (Zn (.int .u64 ((x0).n)) rfl rfl ?_))));obtain ⟨y1, hy1, h⟩ := Ga h;refine Zw (.int .u64 (y1)) (Hw rfl rfl hy1) rfl ?_;refine Zg (.int .u64 (y1)) rfl rfl ?_;refine Zb (Zd (Zf (Za (Zn (.int .u64 ((x1).n)) rfl rfl ?_))));refine Zw (.int .u64 (Qa .and ((x1).n) ((4294967295 : Int)))) (Hk (by simp) rfl rfl) rfl ?_;refine Zg (.int .u64 (Qa .and ((x1).n) ((4294967295 : Int)))) rfl rfl ?_;refine Zb (Zd (Zf (Za (Zn (.int .u64 ((x1).n)) rfl rfl ?_))));obtain ⟨y2, hy2, h⟩ := Ga h;refine Zw (.int .u64 (y2)) (Hw rfl rfl hy2) rfl ?_;refine Zg (.int .u64 (y2)) rfl rfl ?_;refine Zb (Zd (Zf (Za (Zn (.int .u64 (Qa .and ((x0).n) ((4294967295 : Int)))) rfl rfl ?_))));refine Zn (.int .u64 (Qa .and ((x1).n) ((4294967295 : Int)))) rfl rfl ?_;refine Zw (.int .u64 (Qk ((Qa .and ((x0).n) ((4294967295 : Int))) * (Qa .and ((x1).n) ((4294967295 : Int)))))) (Ci rfl rfl) rfl ?_;refine Zg (.int .u64 (Qk ((Qa .and ((x0).n) ((4294967295 : Int))) * (Qa .and ((x1).n) ((4294967295 : Int)))))) rfl rfl ?_;refine Zb (Zd (Zf (Za (Zn (.int .u64 (y1)) rfl rfl ?_))));refine Zn (.int .u64 (Qa .and ((x1).n) ((4294967295 : Int)))) rfl rfl ?_;refine Zw (.int .u64 (Qk (y1 * (Qa .and ((x1).n) ((4294967295 : Int)))))) (Ci rfl rfl) rfl ?_;refine Zn (.int .u64 (Qk ((Qa .and ((x0).n) ((4294967295 : Int))) * (Qa .and ((x1).n) ((4294967295 : Int)))))) rfl rfl ?_;obtain ⟨y3, hy3, h⟩ := Ga h;refine Zw (.int .u64 (y3)) (Hw rfl rfl hy3) rfl ?_;refine Zw (.int .u64 (Qk ((Qk (y1 * (Qa .and ((x1).n) ((4294967295 : Int))))) + y3))) (Fs rfl rfl) rfl ?_;refine Zw (.int .u64 (Qk ((Qk (y1 * (Qa .and ((x1).n) ((4294967295 : Int))))) + y3))) (Tb rfl) rfl ?_;refine Zb (Zd (Zf (Za (Zw (.int .u64 (Qk ((Qk (y1 * (Qa .and ((x1).n) ((4294967295 : Int))))) + y3))) (Zk rfl) rfl ?_))));refine Zw (.int .u64 (Qa .and (Qk ((Qk (y1 * (Qa .and ((x1).n) ((4294967295 : Int))))) + y3)) ((4294967295 : Int)))) (Hk (by simp) rfl rfl) rfl ?_;refine Zw (.int .u64 (Qa .and (Qk ((Qk (y1 * (Qa .and ((x1).n) ((4294967295 : Int))))) + y3)) ((4294967295 : Int)))) (Tb rfl) rfl ?_;refine Zb (Zd (Zf (Za (Zw (.int .u64 (Qk ((Qk (y1 * (Qa .and ((x1).n) ((4294967295 : Int))))) + y3))) (Zk rfl) rfl ?_))));obtain ⟨y4, o0, h⟩ := Ga h;refine Zw (.int .u64 (y4)) (Hw rfl rfl o0) rfl ?_;refine Zg (.int .u64 (y4)) rfl rfl ?_;refine Zb (Zd (Zf (Za (Zw (.int .u64 (Qa .and (Qk ((Qk (y1 * (Qa .and ((x1).n) ((4294967295 : Int))))) + y3)) ((4294967295 : Int)))) (Zk rfl) rfl ?_))));refine Zn (.int .u64 (Qa .and ((x0).n) ((4294967295 : Int)))) rfl rfl ?_;refine Zn (.int .u64 (y2)) rfl rfl ?_;refine Zw (.int .u64 (Qk ((Qa .and ((x0).n) ((4294967295 : Int))) * y2))) (Ci rfl rfl) rfl ?_;refine Zw (.int .u64 (Qk ((Qa .and (Qk ((Qk (y1 * (Qa .and ((x1).n) ((4294967295 : Int))))) + y3)) ((4294967295 : Int))) + (Qk ((Qa .and ((x0).n) ((4294967295 : Int))) * y2))))) (Fs rfl rfl) rfl ?_;refine Zw (.int .u64 (Qk ((Qa .and (Qk ((Qk (y1 * (Qa .and ((x1).n) ((4294967295 : Int))))) + y3)) ((4294967295 : Int))) + (Qk ((Qa .and ((x0).n) ((4294967295 : Int))) * y2))))) (Tb rfl) rfl ?_;refine Zb (Zd (Zf (Za (Zn (.int .u64 (y1)) rfl rfl ?_))));refine Zn (.int .u64 (y2)) rfl rfl ?_;refine Zw (.int .u64 (Qk (y1 * y2))) (Ci rfl rfl) rfl ?_;refine Zn (.int .u64 (y4)) rfl rfl ?_;refine Zw (.int .u64 (Qk ((Qk (y1 * y2)) + y4))) (Fs rfl rfl) rfl ?_;refine Zw (.int .u64 (Qk ((Qa .and (Qk ((Qk (y1 * (Qa .and ((x1).n) ((4294967295 : Int))))) + y3)) ((4294967295 : Int))) + (Qk ((Qa .and ((x0).n) ((4294967295 : Int))) * y2))))) (Zk rfl) rfl ?_;obtain ⟨y5, hy5, h⟩ := Ga h;refine Zw (.int .u64 (y5)) (Hw rfl rfl hy5) rfl ?_;refine Zw (.int .u64 (Qk ((Qk ((Qk (y1 * y2)) + y4)) + y5))) (Fs rfl rfl) rfl ?_
 refine Zw (.int .u64 (Qk ((Qk ((Qk (y1 * y2)) + y4)) + y5))) (Tb rfl) rfl ?_;refine Zb (Zd (Zf (Za (Zn (.int .u64 ((x0).n)) rfl rfl ?_))));refine Zn (.int .u64 ((x1).n)) rfl rfl ?_;refine Zw (.int .u64 (Qk (((x0).n) * ((x1).n)))) (Ci rfl rfl) rfl ?_;refine Zg (.int .u64 (Qk (((x0).n) * ((x1).n)))) rfl rfl ?_;refine Zb (Zd (Gq ?_));obtain rfl := sinj h;exact Bc rfl rfl (show _ = .int .u64 (Qk ((Qk ((Qk (y1 * y2)) + y4)) + y5)) from rfl) (show _ = .int .u64 (Qk (((x0).n) * ((x1).n))) from rfl) ⟨_, hfr, _, _, rfl, rfl, rfl⟩
def f85 (x0 : List Int) : Option ((List Int)) :=
 jn (σ := Unit) (fun _ =>
  jn (σ := Unit) (fun _ =>
   some (x0)
   ) fun k53 =>
  lp (σ := Int) (fun k54 o0 =>
   jn (σ := Unit) (fun _ =>
    jn (σ := Int) (fun t5 =>
     k54 ((w64 (t5 + (1 : Int))))
     ) fun uC =>
    (idx x0 o0).bind fun n9 =>
    (idx x0 (w64 (o0 - (1 : Int)))).bind fun aB =>
    bif (n9 == aB) then
     none
    else
     uC (o0)
    ) fun k57 =>
   bif (decide (o0 < ((x0).length : Int))) then
    k57 ()
   else
    k53 ()
   ) big ((1 : Int))
  ) fun k2 =>
 bif (decide (((x0).length : Int) < (2 : Int))) then
  some (x0)
 else
  k2 ()
theorem en85 : Enters Try.prog 85 := enters_of Try.func85 (by kernel_rfl) rfl
theorem wk85 {gI : Gh} {wI : World} {x0 : List Int} {up0 : Value} (rp0 : RV gI.m wI x0 up0) {r : (List Int)} (h : f85 x0 = some r) : Fn Try.prog 85 #[up0] gI wI (fun m w v => RV m w (r) v) := by
 unfold f85 at h;refine Gw Try.func85 rfl (Nat.le_of_ble_eq_true rfl) fun g0 hm hfr => ?_;have rp0 : RV g0.m wI x0 up0 := hm ▸ rp0;show E _ 61 none _ _ _ _ _;refine Zf (Za (Zg (.slice none 0 0) rfl rfl ?_));refine Zb (Zd (Zq h (fun (s : Unit) e w => ∃ (g : Gh) , Fr gI wI g w ∧ e 0 = up0 ∧ RV g.m w (x0 : List Int) up0) (fun X2 k2 hk2 h => ?_) ?_))
 ·refine Zf (Za (Zn up0 rfl rfl ?_))
  refine Zw (.int .i64 ((x0).length : Int)) (Tu Try.underlying31 rfl rp0) rfl ?_;refine Gg (.bool ((decide (((x0).length : Int) < (2 : Int))))) rfl rfl rfl rfl ?_;refine Zb (Zd ?_);rcases Zt h with ⟨hc3, h⟩ | ⟨hc3, h⟩
  ·refine Tn hc3 rfl ?_
   refine Zf (Za (Zn up0 rfl rfl ?_));refine Zg up0 rfl rfl ?_;refine Zb (Zd (Gq (Tz ?_)));obtain rfl := sinj h;exact Qr rfl rfl (show _ = up0 from rfl) ⟨_, hfr, rp0⟩
  ·refine To hc3 rfl ?_
   exact Zu (Zd (hk2 () _ _ ⟨g0, hfr, rfl, rp0⟩ h))
 ·rintro _ rF w4 ⟨g4, hfr, bD, cD⟩ h
  refine Zq h (fun (s : Unit) e w => ∃ (g : Gh) , Fr gI wI g w ∧ e 0 = up0 ∧ RV g.m w (x0 : List Int) up0) (fun X53 k53 lD h => ?_) ?_
  ·refine Zf (Za (Zg (.int .i64 (1)) rfl rfl ?_))
   refine Zb (Zd (Zr ?_));refine Wv h (fun (s : Int) e w => ∃ (g : Gh) , Fr gI wI g w ∧ e 0 = up0 ∧ RV g.m w (x0 : List Int) up0 ∧ e 3 = .int .i64 (s)) ⟨g4, hfr, bD, cD, rfl⟩ (fun X54 k54 nD => ?_);rintro o0 yE sF ⟨vC, hfr, l8, n8, lB⟩ h;refine Zq h (fun (s : Unit) e w => ∃ (g : Gh) , Fr gI wI g w ∧ e 0 = up0 ∧ RV g.m w (x0 : List Int) up0 ∧ e 3 = .int .i64 (o0)) (fun X57 k57 oD h => ?_) ?_
   ·refine Zf (Za (Zo lB rfl ?_))
    refine Zo l8 rfl ?_;refine Zw (.int .i64 ((x0).length : Int)) (Tu Try.underlying31 rfl n8) rfl ?_;refine Gg (.bool ((decide (o0 < ((x0).length : Int))))) rfl rfl rfl rfl ?_;refine Zb (Zd ?_);rcases Zt h with ⟨l9, h⟩ | ⟨l9, h⟩
    ·refine Tn l9 rfl ?_
     exact Zu (Zd (oD () _ _ ⟨vC, hfr, l8, n8, lB⟩ h))
    ·refine To l9 rfl ?_
     refine Qc ?_;refine Tf ?_;refine Tf ?_;refine Tl ?_;exact Zd (lD () _ _ ⟨vC, hfr, l8, n8⟩ h)
   ·rintro _ zE tF ⟨iE, hfr, i6, l5, g8⟩ h
    refine Zq h (fun (s : Int) e w => ∃ (g : Gh) , Fr gI wI g w ∧ e 0 = up0 ∧ RV g.m w (x0 : List Int) up0 ∧ e 3 = .int .i64 (s)) (fun X81 uC yD h => ?_) ?_
    ·refine Zr ?_
     refine Zf ?_;obtain ⟨n9, mB, h⟩ := Ga h;have lE := Tp l5 mB;refine Zs (x := .tmp 18) Try.isAgg3 Try.sizeOf3 lE fun uF mE zD => ?_;obtain rfl := Zj.1 mE;obtain ⟨aB, nB, h⟩ := Ga h;have oE := Tp l5 nB;refine Zs (x := .tmp 23) Try.isAgg3 Try.sizeOf3 oE fun vF rE aE => ?_;obtain rfl := Zj.1 rE;refine Tx (g := iE) (n := 10) [] [0, 1, 2, 3, 4, 5, 6, 7, 8, 9] rfl Qq (by kernel_rfl) trivial ?_;refine Zz up0 rfl rfl (Zk i6) ?_;refine Zz (.int .i64 (o0)) rfl rfl (Zk g8) ?_;refine Zz (Ty up0 o0 1) rfl rfl (Zh (α := Int) Try.underlying31 Try.sizeOf3 rfl l5 rfl mB) ?_;refine Tt (c := .int .i64 (n9)) rfl rfl .plain (fun _ _ h => h.ch) zD rfl ?_;refine Zz up0 rfl rfl (Zk i6) ?_;refine Zz (.int .i64 (o0)) rfl rfl (Zk g8) ?_;refine Zz (.int .i64 ((w64 (o0 - (1 : Int))))) rfl rfl (Gj rfl rfl rfl) ?_;refine Zz (Ty up0 (w64 (o0 - (1 : Int))) 1) rfl rfl (Zh (α := Int) Try.underlying31 Try.sizeOf3 rfl l5 rfl nB) ?_;refine Tt (c := .int .i64 (aB)) rfl rfl .plain (fun _ _ h => h.ch) aE rfl ?_;refine Zz (.bool ((n9 == aB))) rfl rfl (Gj rfl rfl rfl) ?_;refine Kr fun uE xF hs => ?_;have hfr := hfr.ext hs;have l5 := l5.ext hs;clear hs;refine Zb (Zd ?_);rcases Zt h with ⟨v8, h⟩ | ⟨v8, h⟩
     ·refine Tn v8 rfl ?_
      refine Zf (Za (Zo i6 rfl ?_));refine Zo g8 rfl ?_
      cases h
     ·refine To v8 rfl ?_
      exact Zu (Ts (Zd (yD (o0) _ _ ⟨uE, hfr, i6, l5, g8⟩ h)))
    ·rintro t5 vE cF ⟨bE, hfr, oB, vB, yB⟩ h
     refine Za (Zo yB rfl ?_);refine Gg (.int .i64 ((w64 (t5 + (1 : Int))))) rfl rfl rfl rfl ?_;refine Zg (.int .i64 ((w64 (t5 + (1 : Int))))) rfl rfl ?_;exact Zb (Zd (nD ((w64 (t5 + (1 : Int)))) _ _ ⟨bE, hfr, oB, vB, rfl⟩ h))
  ·rintro _ xE dF ⟨eF, hfr, zB, cC⟩ h
   refine Zf (Za (Zo zB rfl ?_));refine Zg up0 rfl rfl ?_;refine Zb (Zd (Gq ?_));obtain rfl := sinj h;exact Qr rfl rfl (show _ = up0 from rfl) ⟨_, hfr, cC⟩
def f88 (x0 : Gd) (x1 : List (Gi × Int)) (x2 : Gi) (x3 : Int) (x4 : Int) : Option ((List (Gi × Int))) :=
 lp (σ := (List (Gi × Int)) × Int) (fun k3 (l9, l5) =>
  bif (decide (l5 < (3 : Int))) then
   Option.bind (α := (List (Gi × Int))) (
    (f22 ((x0).belt) ((x2).at_) l5).bind fun g8 =>
    (f27 l5).bind fun i6 =>
    bif (decide ((w64 ((x2).faults + i6)) ≤ x4)) then
     some ((Vw l9 ((⟨g8, (w64 ((x2).faults + i6))⟩ : Gi)) ((w64 (((Jv l9 ((⟨g8, (w64 ((x2).faults + i6))⟩ : Gi))).getD (0 : Int)) + x3)))))
    else
     some (l9)
    ) fun v8 =>
   k3 (v8, (w64 (l5 + (1 : Int))))
  else
   some (l9)
  ) big (x1, (0 : Int))
theorem en88 : Enters Try.prog 88 := enters_of Try.func88 (by kernel_rfl) rfl
theorem wk88 {iI : Nat} {gI : Gh} {wI : World} {x0 : Gd} {x1 : List (Gi × Int)} {x2 : Gi} {x3 : Int} {x4 : Int} {up0 : Value} (rp0 : RV gI.m wI x0 up0) {up1 : Value} (mp1 : MP (Je Wj) iI gI wI x1 up1) {up2 : Value} (rp2 : RV gI.m wI x2 up2) {r : (List (Gi × Int))} (h : f88 x0 x1 x2 x3 x4 = some r) : FnM Try.prog 88 #[up0, up1, up2, .int .i64 (x3), .int .i64 (x4)] iI gI wI (fun g w v => v = .tuple #[] ∧ MP (Je Wj) iI g w r up1) := by
 unfold f88 at h;refine Yd Try.func88 rfl (Nat.le_of_ble_eq_true rfl) fun g0 hm hfr => ?_;have rE := mp1;replace mp1 := mp1.enter;rw [← hm] at mp1
 replace hm : g0.m = gI.m := by rw [hm]
 have rp0 : RV g0.m wI x0 up0 := hm ▸ rp0;have rp2 : RV g0.m wI x2 up2 := hm ▸ rp2;show E _ 39 none _ _ _ _ _;refine Zf (Za (Ze .plain rfl (Qs (g := g0) rfl rp0 fun g1 w1 p1 hs q1 => ?_)));have hfr := hfr.ext hs;have mp1 := mp1.ext hs;have rp2 := rp2.ext hs;refine Ze .plain rfl (Qs (g := g1) rfl rp2 fun g2 w2 p2 hs q2 => ?_);have hfr := hfr.ext hs;have mp1 := mp1.ext hs;have q1 := q1.ext hs;refine Zb (Zd (Zf (Za (Zn (.int .i64 (0)) rfl rfl ?_))));refine Zb (Zd (Zr ?_));refine Wv h (fun (s : (List (Gi × Int)) × Int) e w => ∃ (g : Gh) , FrM iI gI wI g w ∧ e 1 = up1 ∧ MP (Je Wj) 1 g w (s.1 : List (Gi × Int)) up1 ∧ e 3 = .int .i64 (x3) ∧ e 4 = .int .i64 (x4) ∧ e 5 = p1 ∧ PT g.m w (x0 : Gd) p1 ∧ e 7 = p2 ∧ PT g.m w (x2 : Gi) p2 ∧ e 12 = .int .i64 (s.2)) ⟨g2, hfr, rfl, mp1, rfl, rfl, rfl, q1, rfl, q2, rfl⟩ (fun X3 k3 hk3 => ?_);rintro ⟨l9, l5⟩ cH w4 ⟨g4, hfr, mB, l8, nB, oB, vB, t5, lB, o0, n9⟩ h;refine Zf (Za (Gg (.bool ((decide (l5 < (3 : Int))))) n9 rfl rfl rfl ?_));refine Zb (Zd (Zf ?_));rcases Zt h with ⟨hc5, h⟩ | ⟨hc5, h⟩
 ·refine Tn hc5 rfl ?_
  refine Zu (Zd ?_);obtain ⟨v8, hx, h⟩ := Ga h;refine Gp (fun e w => ∃ (g : Gh) , FrM iI gI wI g w ∧ e 1 = up1 ∧ MP (Je Wj) 1 g w (v8 : List (Gi × Int)) up1 ∧ e 3 = .int .i64 (x3) ∧ e 4 = .int .i64 (x4) ∧ e 5 = p1 ∧ PT g.m w (x0 : Gd) p1 ∧ e 7 = p2 ∧ PT g.m w (x2 : Gi) p2 ∧ e 12 = .int .i64 (l5)) (fun Q' hQ => ?_) (fun kG lG hR => ?_)
  ·replace h := hx
   clear hx;refine Zr ?_;refine Zf (Za (Zo n9 rfl ?_));refine Zg (.int .i64 (l5)) rfl rfl ?_;refine Zb (Zd (Zf ?_));have sF := Zm (Wa).1 t5;refine Zs (x := .tmp 15) Try.isAgg66 Try.sizeOf66 sF fun lE tF uE => ?_;have uF := Zm (Ht).1 o0;refine Zs (x := .tmp 17) Try.isAgg3 Try.sizeOf3 uF fun mG vF vE => ?_;obtain rfl := Zj.1 vF;obtain ⟨g8, xE, h⟩ := Ga h;have xF := Zm (Hv).1 o0;refine Zs (x := .tmp 21) Try.isAgg3 Try.sizeOf3 xF fun sG yF yE => ?_;obtain rfl := Zj.1 yF;obtain ⟨i6, zE, h⟩ := Ga h;have yB : RV g4.m w4 (⟨g8, (w64 ((x2).faults + i6))⟩ : Gi) (.agg (Qd [[.int .i64 0], [.int .i64 0]] [(0, .int .i64 (g8)), (1, .int .i64 ((w64 ((x2).faults + i6))))]).flatten.toArray) := Qj rfl (Te (rfl) (Qh (rfl)));generalize cF : (Value.agg (Qd [[.int .i64 0], [.int .i64 0]] [(0, .int .i64 (g8)), (1, .int .i64 ((w64 ((x2).faults + i6))))]).flatten.toArray) = mE at yB;refine Tx (g := g4) (n := 13) [(5, (fun v g w => v = .int .i64 (g8))), (9, (fun v g w => v = .int .i64 (i6))), (12, (fun v g w => OB 2011 g w 116 (⟨0, 0⟩ : Gi) v))] [0, 1, 2, 3, 4, 5, 6, 7, 8, 9, 10, 11, 12] rfl Qq (by kernel_rfl) (⟨fun _ => Wf _, fun _ => Wf _, fun _ => up_ob, trivial⟩) ?_;refine Zz (Gk p1 0) rfl rfl (Zc Ug vB (PT.ptr t5)) ?_;refine Tt (c := lE) rfl rfl .plain (fun _ _ h => h.ch) uE rfl ?_;refine Zz (Gk p2 0) rfl rfl (Zc Ad lB (PT.ptr o0)) ?_;refine Tt (c := .int .i64 ((x2).at_)) rfl rfl .plain (fun _ _ h => h.ch) vE rfl ?_;refine Zz (.int .i64 (l5)) rfl rfl (Zk rfl) ?_;refine Ka (φ := fun v g w => v = .int .i64 (g8)) rfl rfl .plain (fun g w hd => Zp (g := g) (vs := [lE, .int .i64 ((x2).at_), .int .i64 (l5)]) en22 (.cons rfl (.cons rfl (.cons rfl .nil))) (wk22 (tF.ext hd.1) xE) fun g' w' v hs hr => ⟨g', hs, hr⟩) (fun xG hv => ?_);obtain ⟨_, _, _, rfl⟩ := hv;refine Zz (Gk p2 1) rfl rfl (Zc Pc lB (PT.ptr o0)) ?_;refine Tt (c := .int .i64 ((x2).faults)) rfl rfl .plain (fun _ _ h => h.ch) yE rfl ?_;refine Zz (.int .i64 (l5)) rfl rfl (Zk rfl) ?_;refine Ka (φ := fun v g w => v = .int .i64 (i6)) rfl rfl .plain (fun g w hd => Zp (g := g) (vs := [.int .i64 (l5)]) en27 (.cons rfl .nil) (wk27  zE) fun g' w' v hs hr => ⟨g', hs, hr⟩) (fun yG hv => ?_);obtain ⟨_, _, _, rfl⟩ := hv;refine Zz (.int .i64 ((w64 ((x2).faults + i6)))) rfl rfl (Gj rfl rfl rfl) ?_;refine Zz mE rfl rfl (cF ▸ Qu (vs := [(0, .int .i64 (g8)), (1, .int .i64 ((w64 ((x2).faults + i6))))]) [[.int .i64 0], [.int .i64 0]] Mh rfl rfl (.cons rfl (.cons rfl .nil)) ⟨⟨_, rfl, rfl⟩, ⟨⟨_, rfl, rfl⟩, trivial⟩⟩) ?_;refine Ka (φ := fun v g w => OB 2011 g w 116 (⟨0, 0⟩ : Gi) v) rfl rfl .plain (fun g w hd => Pp (g := g) 2011 (⟨0, 0⟩ : Gi) Try.zeroValue116 (fun m w => ⟨_, (Gv Zv Zv), rfl⟩) fun g' w' v hs b => ⟨g', hs, b⟩) (fun oE hv => ?_);clear hv;refine Um fun aG zG hall => ?_;have hs := hall.1;have hfr := hfr.ext hs;have l8 := l8.ext hs;have t5 := t5.ext hs;have o0 := o0.ext hs;have yB := yB.ext hs;have b568 := (Qm (A := fun g w => OB 2011 g w 116 (⟨0, 0⟩ : Gi) oE) 12 rfl hall);clear hs hall;refine Ze .plain rfl (Gm (g := aG) (v := mE) Try.sizeOf116 rfl b568 rfl yB fun aB bG hs b569 cb => ?_);clear cb;have hfr := hfr.stp hs;have l8 := l8.stp hs rfl;have t5 := t5.stp hs;have o0 := o0.stp hs;refine Zb (Zd (Zf (Za (Zw (Gk oE 1) (Zc Pc rfl (OB.ptr b569)) rfl ?_))));refine Ze .plain rfl (Wz (g := aB) Hv.1 Try.isAgg3 Try.sizeOf3 rfl b569 fun aH cG => ?_);obtain rfl := Zj.1 cG;refine Zo oB rfl ?_;refine Zw (.bool ((decide ((w64 ((x2).faults + i6)) ≤ x4)))) (Gj rfl rfl rfl) rfl ?_;refine Zb (Zd ?_);rcases Zt h with ⟨zB, h⟩ | ⟨zB, h⟩
   ·refine Tn zB rfl ?_
    refine Wt (x := .tmp 11) Try.isAgg116 Try.sizeOf116 b569 fun eG n8 dF => ?_;refine Oq (g := aB) (w := bG) (n := 7) [0, 1, 3, 4, 6] [] [2011] [2011] 5 (.step 0 (.step 1 (.step 3 (.alt 2 (.step 4 (.step 5 (.step 6 .done))) (.alt 5 (.step 6 (.step 2 (.step 4 .done))) .stop))))) Qq (by kernel_rfl) rfl fun w_c576 hs hlt => ?_;have hfr := hfr.ext hs;have l8 := l8.ext hs;have t5 := t5.ext hs;have o0 := o0.ext hs;clear hs;refine Bs (c := up1) rfl rfl .plain (Zk mB) ?_;refine CT_ldO false (n := 2011) (c := eG) rfl rfl .plain dF rfl rfl ?_;have n8 := n8.ch hlt.1;refine Bs (c := .int .i64 (x3)) rfl rfl .plain (Zk nB) ?_;refine Ec ?_ (Ec ?_ CT_stop)
    ·refine Ms [2011] rfl rfl rfl .plain (Rp (g := aB) (z0 := (0 : Int)) Try.underlying112 Dy Try.zeroValue3 (fun m w => ⟨_, Zv, rfl⟩) rfl l8 (rfl.trans (Ba Wj n8)) fun gG vC => ?_)
     obtain rfl := Zj.1 vC;refine ⟨hlt.toW, ?_⟩;refine Bs (c := .int .i64 ((w64 (((Jv l9 ((⟨g8, (w64 ((x2).faults + i6))⟩ : Gi))).getD (0 : Int)) + x3)))) rfl rfl .plain (Gj rfl rfl rfl) ?_;refine Ms [2011] rfl rfl rfl .plain (Ru (g := aB) (z0 := (0 : Int)) Try.underlying112 Dy Try.zeroValue3 (fun m w => ⟨_, Zv, rfl⟩) rfl l8 (rfl.trans (Ba Wj n8)) fun cC iG jG n881 hs m881 bD => ?_);have hfr := hfr.stp hs;have hlt := hlt.stp hs;have t5 := t5.stp hs;have o0 := o0.stp hs;obtain rfl := Zj.1 bD;refine ⟨hlt.toW, ?_⟩;refine Bs (c := .int .i64 (n881 : Int)) rfl rfl .plain (Zi rfl rfl) ?_;refine Ez ?_;clear hlt;refine Ze .plain rfl (Dw (g := cC) rfl m881 rfl rfl (Zj.2 rfl) fun uC eF hs m1061 => ?_);have hfr := hfr.stp hs;have t5 := t5.stp hs;have o0 := o0.stp hs;refine Zb (Ts ?_);obtain rfl := sinj h;exact hQ _ _ ⟨uC, hfr, mB, m1061, nB, oB, vB, t5, lB, o0, n9⟩
    ·refine Ms [2011] rfl rfl rfl .plain (Ru (g := aB) (z0 := (0 : Int)) Try.underlying112 Dy Try.zeroValue3 (fun m w => ⟨_, Zv, rfl⟩) rfl l8 (rfl.trans (Ba Wj n8)) fun cC iG jG n881 hs m881 bD => ?_)
     have hfr := hfr.stp hs;have hlt := hlt.stp hs;have t5 := t5.stp hs;have o0 := o0.stp hs;have n8 := n8.stp hs;obtain rfl := Zj.1 bD;refine ⟨hlt.toW, ?_⟩;refine Bs (c := .int .i64 (n881 : Int)) rfl rfl .plain (Zi rfl rfl) ?_;refine Ms [2011] rfl rfl rfl .plain (Oe (g := cC) Try.underlying112 Dy rfl m881 (rfl.trans (Ba Wj n8)) fun gG vC => ?_);obtain rfl := Zj.1 vC;refine ⟨hlt.toW, ?_⟩;refine Bs (c := .int .i64 ((w64 (((Jv l9 ((⟨g8, (w64 ((x2).faults + i6))⟩ : Gi))).getD (0 : Int)) + x3)))) rfl rfl .plain (Gj rfl rfl rfl) ?_;refine Ez ?_;clear hlt;refine Ze .plain rfl (Dw (g := cC) rfl m881 rfl rfl (Zj.2 rfl) fun uC eF hs m1061 => ?_);have hfr := hfr.stp hs;have t5 := t5.stp hs;have o0 := o0.stp hs;refine Zb (Ts ?_);obtain rfl := sinj h;exact hQ _ _ ⟨uC, hfr, mB, m1061, nB, oB, vB, t5, lB, o0, n9⟩
   ·refine To zB rfl ?_
    refine Zu (Ts ?_);obtain rfl := sinj h;exact hQ _ _ ⟨aB, hfr, mB, l8, nB, oB, vB, t5, lB, o0, n9⟩
  ·clear hx
   obtain ⟨rF, hfr, lD, nD, oD, yD, zD, aE, bE, iE, cD⟩ := hR;refine Za (Gg (.int .i64 ((w64 (l5 + (1 : Int))))) cD rfl rfl rfl ?_);refine Zn (.int .i64 ((w64 (l5 + (1 : Int))))) rfl rfl ?_;exact Zb (Zd (hk3 (v8, (w64 (l5 + (1 : Int)))) _ _ ⟨rF, hfr, lD, nD, oD, yD, zD, aE, bE, iE, rfl⟩ h))
 ·refine To hc5 rfl ?_
  refine Qc ?_;refine Tf ?_;refine Tf ?_;refine Tl ?_;obtain rfl := sinj h;exact Vu rfl rfl ⟨_, hfr, rfl, rE.back l8⟩
def f89 (x0 : List Int) (x1 : Int) (x2 : Int) (x3 : Int → Int → Option Int) : Option ((List Int)) :=
 lp (σ := (List Int) × Int) (fun k1 (cC, g8) =>
  jn (σ := Unit) (fun _ =>
   Option.bind (α := (List Int)) (
    lp (σ := (List Int) × Int) (fun xE (t5, o0) =>
     jn (σ := Unit) (fun _ =>
      Option.bind (α := (List Int)) (
       (idx t5 (w64 (o0 - (1 : Int)))).bind fun vB =>
       (idx t5 o0).bind fun uC =>
       (idx t5 o0).bind fun pH =>
       (idx ((List.set t5 (Int.toNat o0) vB)) (w64 (o0 - (1 : Int)))).bind fun qH =>
       some ((List.set ((List.set t5 (Int.toNat o0) vB)) (Int.toNat (w64 (o0 - (1 : Int)))) uC))
       ) fun aB =>
      xE (aB, (w64 (o0 - (1 : Int))))
      ) fun yE =>
     Option.bind (α := Bool) (
      bif (decide (o0 > x1)) then
       (idx t5 o0).bind fun vC =>
       (idx t5 (w64 (o0 - (1 : Int)))).bind fun bD =>
       (x3 vC bD).bind fun oB =>
       some ((decide (oB < (0 : Int))))
      else
       some (false)
      ) fun n8 =>
     bif n8 then
      yE ()
     else
      some (t5)
     ) big (cC, g8)
    ) fun lB =>
   k1 (lB, (w64 (g8 + (1 : Int))))
   ) fun k4 =>
  bif (decide (g8 < x2)) then
   k4 ()
  else
   some (cC)
  ) big (x0, (w64 (x1 + (1 : Int))))
theorem en89 : Enters Try.prog 89 := enters_of Try.func89 (by kernel_rfl) rfl
theorem wk89 {iI : Nat} {gI : Gh} {wI : World} {x0 : List Int} {x1 : Int} {x2 : Int} {x3 : Int → Int → Option Int} {up0 : Value} (mp0 : OM iI gI wI 3 x0 up0) {up3 : Value} (rp3 : Ui Try.prog x3 up3 gI wI) {r : (List Int)} (h : f89 x0 x1 x2 x3 = some r) : FnM Try.prog 89 #[up0, .int .i64 (x1), .int .i64 (x2), up3] iI gI wI (fun g w v => v = .tuple #[] ∧ OM iI g w 3 r up0) := by
 unfold f89 at h;refine Yd Try.func89 rfl (Nat.le_of_ble_eq_true rfl) fun g0 hm hfr => ?_;have cH := mp0;replace mp0 := mp0.enter;rw [← hm] at mp0
 replace hm : g0.m = gI.m := by rw [hm]
 obtain ⟨ff3, fa3, fc3, rfl, fen3, fcl3⟩ := rp3;show E _ 53 none _ _ _ _ _;refine Zf (Za (Zn (.int .i64 (x1)) rfl rfl ?_));refine Gg (.int .i64 ((w64 (x1 + (1 : Int))))) rfl rfl rfl rfl ?_;refine Zg (.int .i64 ((w64 (x1 + (1 : Int))))) rfl rfl ?_;refine Zb (Zd (Zr ?_));refine Wv h (fun (s : (List Int) × Int) e w => ∃ (g : Gh) , FrM iI gI wI g w ∧ e 0 = up0 ∧ OM 1 g w 3 (s.1 : List Int) up0 ∧ e 1 = .int .i64 (x1) ∧ e 2 = .int .i64 (x2) ∧ e 3 = (.func (.func ff3) fa3 fc3) ∧ e 8 = .int .i64 (s.2)) ⟨g0, hfr, rfl, mp0, rfl, rfl, rfl, rfl⟩ (fun X1 k1 hk1 => ?_);rintro ⟨cC, g8⟩ pK w2 ⟨g2, hfr, sH, zE, tH, cF, uH, dF⟩ h;refine Zq h (fun (s : Unit) e w => ∃ (g : Gh) , FrM iI gI wI g w ∧ e 0 = up0 ∧ OM 1 g w 3 (cC : List Int) up0 ∧ e 1 = .int .i64 (x1) ∧ e 2 = .int .i64 (x2) ∧ e 3 = (.func (.func ff3) fa3 fc3) ∧ e 8 = .int .i64 (g8)) (fun X4 k4 hk4 h => ?_) ?_
 ·refine Zf (Za (Zo dF rfl ?_))
  refine Zo cF rfl ?_;refine Gg (.bool ((decide (g8 < x2)))) rfl rfl rfl rfl ?_;refine Zb (Zd ?_);rcases Zt h with ⟨hc5, h⟩ | ⟨hc5, h⟩
  ·refine Tn hc5 rfl ?_
   exact Zu (Zd (hk4 () _ _ ⟨g2, hfr, sH, zE, tH, cF, uH, dF⟩ h))
  ·refine To hc5 rfl ?_
   refine Qc ?_;refine Tf ?_;refine Tf ?_;refine Tl ?_;obtain rfl := sinj h;exact Vu rfl rfl ⟨_, hfr, rfl, cH.back zE⟩
 ·rintro _ qK w6 ⟨g6, hfr, xH, yH, zH, aI, bI, eF⟩ h
  obtain ⟨lB, hx, h⟩ := Ga h;refine Gp (fun e w => ∃ (g : Gh) , FrM iI gI wI g w ∧ e 0 = up0 ∧ OM 1 g w 3 (lB : List Int) up0 ∧ e 1 = .int .i64 (x1) ∧ e 2 = .int .i64 (x2) ∧ e 3 = (.func (.func ff3) fa3 fc3) ∧ e 8 = .int .i64 (g8)) (fun Q' hQ => ?_) (fun mJ rJ hR => ?_)
  ·replace h := hx
   clear hx;refine Zr ?_;refine Zf (Za (Zo eF rfl ?_));refine Zg (.int .i64 (g8)) rfl rfl ?_;refine Zb (Zd (Zr ?_));refine Wv h (fun (s : (List Int) × Int) e w => ∃ (g : Gh) , FrM iI gI wI g w ∧ e 0 = up0 ∧ OM 1 g w 3 (s.1 : List Int) up0 ∧ e 1 = .int .i64 (x1) ∧ e 2 = .int .i64 (x2) ∧ e 3 = (.func (.func ff3) fa3 fc3) ∧ e 8 = .int .i64 (g8) ∧ e 9 = .int .i64 (s.2)) ⟨g6, hfr, xH, yH, zH, aI, bI, eF, rfl⟩ (fun X297 xE gH => ?_);rintro ⟨t5, o0⟩ nJ sJ ⟨rF, hfr, mB, i6, nB, lD, yB, nD, v8⟩ h;refine Zq h (fun (s : Unit) e w => ∃ (g : Gh) , FrM iI gI wI g w ∧ e 0 = up0 ∧ OM 1 g w 3 (t5 : List Int) up0 ∧ e 1 = .int .i64 (x1) ∧ e 2 = .int .i64 (x2) ∧ e 3 = (.func (.func ff3) fa3 fc3) ∧ e 8 = .int .i64 (g8) ∧ e 9 = .int .i64 (o0)) (fun X411 yE jH h => ?_) ?_
   ·obtain ⟨n8, hx, h⟩ := Ga h
    refine Gp (fun e w => ∃ (g : Gh) , FrM iI gI wI g w ∧ e 0 = up0 ∧ OM 1 g w 3 (t5 : List Int) up0 ∧ e 1 = .int .i64 (x1) ∧ e 2 = .int .i64 (x2) ∧ e 3 = (.func (.func ff3) fa3 fc3) ∧ e 8 = .int .i64 (g8) ∧ e 9 = .int .i64 (o0) ∧ e 34 = .bool (n8)) (fun Q' hQ => ?_) (fun oJ vJ hR => ?_)
    ·replace h := hx
     clear hx;rcases Zt h with ⟨l5, h⟩ | ⟨l5, h⟩
     ·obtain ⟨vC, lE, h⟩ := Ga h
      refine Ww (x := .tmp 25) Try.isAgg3 Try.sizeOf3 i6 lE fun xJ dI kH => ?_;obtain rfl := Zj.1 dI;obtain ⟨bD, mE, h⟩ := Ga h;refine Ww (x := .tmp 30) Try.isAgg3 Try.sizeOf3 i6 mE fun zJ jI lH => ?_;obtain rfl := Zj.1 jI;obtain ⟨oB, mH, h⟩ := Ga h;refine Tx (g := rF) (n := 17) [(14, (fun v g w => v = .int .i64 (oB)))] [0, 1, 2, 3, 4, 5, 6, 7, 8, 9, 10, 11, 12, 13, 14, 15, 16] rfl Qq (by kernel_rfl) (⟨fun _ => Wf _, trivial⟩) ?_;refine Zz (.int .i64 (o0)) rfl rfl (Zk v8) ?_;refine Zz (.int .i64 (x1)) rfl rfl (Zk nB) ?_;refine Zz (.bool ((decide (o0 > x1)))) rfl rfl (Gj rfl rfl rfl) ?_;refine Zz (.bool ((decide (o0 > x1)))) rfl rfl (Zk rfl) ?_;refine L_y ((.func (.func ff3) fa3 fc3)) rfl rfl rfl rfl l5 (Zk yB) ?_;refine L_y up0 rfl rfl rfl rfl l5 (Zk mB) ?_;refine L_y (.int .i64 (o0)) rfl rfl rfl rfl l5 (Zk v8) ?_;refine L_y (Ty up0 o0 1) rfl rfl rfl rfl l5 (Gx (α := Int) Try.underlying31 Try.sizeOf3 rfl i6 rfl lE) ?_;refine Tt (c := .int .i64 (vC)) rfl rfl (.yes2 rfl rfl l5) (fun _ _ h => ⟨h.ch, fun b hb _ => h.below.block b hb⟩) kH rfl ?_;refine L_y up0 rfl rfl rfl rfl l5 (Zk mB) ?_;refine L_y (.int .i64 (o0)) rfl rfl rfl rfl l5 (Zk v8) ?_;refine L_y (.int .i64 ((w64 (o0 - (1 : Int))))) rfl rfl rfl rfl l5 (Gj rfl rfl rfl) ?_;refine L_y (Ty up0 (w64 (o0 - (1 : Int))) 1) rfl rfl rfl rfl l5 (Gx (α := Int) Try.underlying31 Try.sizeOf3 rfl i6 rfl mE) ?_;refine Tt (c := .int .i64 (bD)) rfl rfl (.yes2 rfl rfl l5) (fun _ _ h => ⟨h.ch, fun b hb _ => h.below.block b hb⟩) lH rfl ?_;refine Ka (φ := fun v g w => v = .int .i64 (oB)) rfl rfl (.yes2 rfl rfl l5) (fun g w hd => Yp (g := g) (vs := [.int .i64 (vC), .int .i64 (bD)]) rfl fen3 (.cons rfl (.cons rfl .nil)) (fcl3 _ _ (hfr.ext hd.1).ch _ _ _ _ _  (Zj.2 rfl) (Zj.2 rfl) mH) fun g' w' v hs hr => ⟨g', hs, Zj.1 hr⟩) (fun aK hv => ?_);obtain ⟨_, _, _, rfl⟩ := hv;refine L_y (.bool ((decide (oB < (0 : Int))))) rfl rfl rfl rfl l5 (Gj rfl rfl rfl) ?_;refine Zz (.bool ((decide (oB < (0 : Int))))) rfl rfl (Zl (b := (decide (o0 > x1))) rfl (Tg l5 rfl)) ?_;refine Kr fun kI bK hs => ?_;have hfr := hfr.ext hs;have i6 := i6.ext hs;clear hs;refine Zb ?_;obtain rfl := sinj h;exact hQ _ _ ⟨kI, hfr, mB, i6, nB, lD, yB, nD, v8, rfl⟩
     ·refine Tx (g := rF) (n := 17) [] [0, 1, 2, 3, 4, 5, 6, 7, 8, 9, 10, 11, 12, 13, 14, 15, 16] rfl Qq (by kernel_rfl) trivial ?_
      refine Zz (.int .i64 (o0)) rfl rfl (Zk v8) ?_;refine Zz (.int .i64 (x1)) rfl rfl (Zk nB) ?_;refine Zz (.bool ((decide (o0 > x1)))) rfl rfl (Gj rfl rfl rfl) ?_;refine Zz (.bool ((decide (o0 > x1)))) rfl rfl (Zk rfl) ?_;iterate 12 refine L_s rfl rfl rfl l5 rfl ?_
      refine Zz (.bool false) rfl rfl (Zl (b := (decide (o0 > x1))) rfl (Tq l5 rfl)) ?_;refine Kr fun lI cK hs => ?_;have hfr := hfr.ext hs;have i6 := i6.ext hs;clear hs;refine Zb ?_;obtain rfl := sinj h;exact hQ _ _ ⟨lI, hfr, mB, i6, nB, lD, yB, nD, v8, rfl⟩
    ·clear hx
     obtain ⟨sF, hfr, oD, yD, zD, aE, bE, iE, tF, zB⟩ := hR;rcases Zt h with ⟨cD, h⟩ | ⟨cD, h⟩
     ·refine Tv (Eq.trans (show ev _ _ = .bool (n8) from zB) (congrArg Value.bool cD)) ?_
      exact Zu (Zd (jH () _ _ ⟨sF, hfr, oD, yD, zD, aE, bE, iE, tF⟩ h))
     ·refine Tj (Eq.trans (show ev _ _ = .bool (n8) from zB) (congrArg Value.bool cD)) ?_
      refine Qc ?_;refine Tf ?_;refine Tf ?_;refine Tl ?_;refine Ts ?_;obtain rfl := sinj h;exact hQ _ _ ⟨sF, hfr, oD, yD, zD, aE, bE, iE⟩
   ·rintro _ pJ mI ⟨uF, hfr, l9, l8, vF, xF, yF, aG, n9⟩ h
    obtain ⟨aB, hx, h⟩ := Ga h;refine Gp (fun e w => ∃ (g : Gh) , FrM iI gI wI g w ∧ e 0 = up0 ∧ OM 1 g w 3 (aB : List Int) up0 ∧ e 1 = .int .i64 (x1) ∧ e 2 = .int .i64 (x2) ∧ e 3 = (.func (.func ff3) fa3 fc3) ∧ e 8 = .int .i64 (g8) ∧ e 9 = .int .i64 (o0)) (fun Q' hQ => ?_) (fun qJ dK hR => ?_)
    ·replace h := hx
     clear hx;refine Zr ?_;obtain ⟨vB, oE, h⟩ := Ga h;refine Ww (x := .tmp 45) Try.isAgg3 Try.sizeOf3 l8 oE fun lK nI nH => ?_;obtain rfl := Zj.1 nI;obtain ⟨uC, rE, h⟩ := Ga h;refine Ww (x := .tmp 49) Try.isAgg3 Try.sizeOf3 l8 rE fun mK pI oH => ?_;obtain rfl := Zj.1 pI;obtain ⟨pH, uE, h⟩ := Ga h;refine Ur (g := uF) (n := 15) [2, 3, 4] [] [0, 1, 2, 3, 4, 5, 6, 7, 8, 9, 10, 11, 12, 13, 14] rfl Qq (by kernel_rfl) trivial rfl ?_;refine Zz up0 rfl rfl (Zk l9) ?_;refine Zz (.int .i64 (o0)) rfl rfl (Zk n9) ?_;refine Jf (c := up0) rfl rfl .plain (Zk l9) ?_;refine Jf (c := .int .i64 (o0)) rfl rfl .plain (Zk n9) ?_;refine Jf (c := .int .i64 ((w64 (o0 - (1 : Int))))) rfl rfl .plain (Gj rfl rfl rfl) ?_;refine Zz up0 rfl rfl (Zk l9) ?_;refine Zz (.int .i64 (o0)) rfl rfl (Zk n9) ?_;refine Zz (.int .i64 ((w64 (o0 - (1 : Int))))) rfl rfl (Gj rfl rfl rfl) ?_;refine Zz (Ty up0 (w64 (o0 - (1 : Int))) 1) rfl rfl (Gx (α := Int) Try.underlying31 Try.sizeOf3 rfl l8 rfl oE) ?_;refine Tt (c := .int .i64 (vB)) rfl rfl .plain (fun _ _ h => ⟨h.ch, fun b hb _ => h.below.block b hb⟩) nH rfl ?_;refine Zz up0 rfl rfl (Zk l9) ?_;refine Zz (.int .i64 (o0)) rfl rfl (Zk n9) ?_;refine Zz (Ty up0 o0 1) rfl rfl (Gx (α := Int) Try.underlying31 Try.sizeOf3 rfl l8 rfl rE) ?_;refine Tt (c := .int .i64 (uC)) rfl rfl .plain (fun _ _ h => ⟨h.ch, fun b hb _ => h.below.block b hb⟩) oH rfl ?_;refine Zz (Ty up0 o0 1) rfl rfl (Gx (α := Int) Try.underlying31 Try.sizeOf3 rfl l8 rfl uE) ?_;refine Kr fun bG qI hs => ?_;have hlt : Lt uF.m mI bG qI := hs.ch;have hfr := hfr.ext hs;have l8 := l8.ext hs;clear hs;refine Vq hlt.w .plain rfl (Kz (g := bG) (α := Int) (a' := vB) Try.sizeOf3 rfl l8 uE rfl (Zj.2 rfl) fun sI nK hs b582 => ?_);have hfr := hfr.stp hs;have hlt := hlt.stp hs;obtain ⟨qH, vE, h⟩ := Ga h;refine Sd hlt.w (v := Ty up0 (w64 (o0 - (1 : Int))) 1) (Gx (α := Int) Try.underlying31 Try.sizeOf3 rfl b582 rfl vE) .plain rfl ?_;refine Vq hlt.w .plain rfl (Kz (g := sI) (α := Int) (a' := uC) Try.sizeOf3 rfl b582 vE rfl (Zj.2 rfl) fun jJ oK hs b584 => ?_);have hfr := hfr.stp hs;have hlt := hlt.stp hs;refine Sb hlt.w ?_;clear hlt;refine Ts ?_;obtain rfl := sinj h;exact hQ _ _ ⟨jJ, hfr, l9, b584, vF, xF, yF, aG, n9⟩
    ·clear hx
     obtain ⟨kJ, hfr, cG, eG, gG, iG, jG, kG, lG⟩ := hR;refine Za (Zo lG rfl ?_);refine Gg (.int .i64 ((w64 (o0 - (1 : Int))))) rfl rfl rfl rfl ?_;refine Zg (.int .i64 ((w64 (o0 - (1 : Int))))) rfl rfl ?_;exact Zb (Zd (gH (aB, (w64 (o0 - (1 : Int)))) _ _ ⟨kJ, hfr, cG, eG, gG, iG, jG, kG, rfl⟩ h))
  ·clear hx
   obtain ⟨lJ, hfr, mG, sG, xG, yG, zG, aH⟩ := hR;refine Za (Zo aH rfl ?_);refine Gg (.int .i64 ((w64 (g8 + (1 : Int))))) rfl rfl rfl rfl ?_;refine Zg (.int .i64 ((w64 (g8 + (1 : Int))))) rfl rfl ?_;exact Zb (Zd (hk1 (lB, (w64 (g8 + (1 : Int)))) _ _ ⟨lJ, hfr, mG, sG, xG, yG, zG, rfl⟩ h))
def f95 (x0 : Int) (x1 : Int) : Option (Bool) :=
 Option.bind (α := Bool) (
  (f75 x0).bind fun y8 =>
  bif y8 then
   (f75 x1).bind fun y11 =>
   bif (!y11) then
    some (true)
   else
    some ((decide (x0 < x1)))
  else
   some ((decide (x0 < x1)))
  ) fun l5 =>
 some (l5)
theorem en95 : Enters Try.prog 95 := enters_of Try.func95 (by kernel_rfl) rfl
theorem wk95 {gI : Gh} {wI : World} {x0 : Int} {x1 : Int}  {r : Bool} (h : f95 x0 x1 = some r) : Fn Try.prog 95 #[.int .i64 (x0), .int .i64 (x1)] gI wI (fun _ _ v => v = .bool (r)) := by
 unfold f95 at h;refine Gw Try.func95 rfl (Nat.le_of_ble_eq_true rfl) fun g0 hm hfr => ?_;show E _ 17 none _ _ _ _ _;refine Zf (Za (Zg (.bool false) rfl rfl ?_));refine Zb (Zd ?_);obtain ⟨l5, hx, h⟩ := Ga h;refine Gp (fun e w => ∃ (g : Gh) , Fr gI wI g w ∧ e 4 = .bool (l5)) (fun Q' hQ => ?_) (fun n8 l9 hR => ?_)
 ·replace h := hx
  clear hx;refine Za (Zn (.int .i64 (x0)) rfl rfl ?_);obtain ⟨y8, l8, h⟩ := Ga h;refine Ze .plain rfl (Zp (g := g0) (vs := [.int .i64 (x0)]) en75 (.cons rfl .nil) (wk75  l8) fun g7 w7_ v7 hs hr => ?_);have hfr := hfr.ext hs;subst hr;refine Zn (.bool (y8)) rfl rfl ?_;rcases Zt h with ⟨hc9, h⟩ | ⟨hc9, h⟩
  ·refine Zx (.int .i64 (x1)) (Zk rfl) rfl rfl hc9 rfl ?_
   obtain ⟨y11, g8, h⟩ := Ga h;refine Ze (.yes2 rfl rfl hc9) rfl (Zp (g := g7) (vs := [.int .i64 (x1)]) en75 (.cons rfl .nil) (wk75  g8) fun i6 v8 n9 hs hr => ?_);have hfr := hfr.ext hs;subst hr;refine Zx (.bool (!y11)) (Wh rfl) rfl rfl hc9 rfl ?_;refine Zw (.bool (!y11)) (Zl (b := y8) rfl (Tg hc9 rfl)) rfl ?_;refine Zn (.bool (!y11)) rfl rfl ?_;rcases Zt h with ⟨o0, h⟩ | ⟨o0, h⟩
   ·refine Zy rfl rfl o0 rfl rfl ?_
    refine Zy rfl rfl o0 rfl rfl ?_;refine Zy rfl rfl o0 rfl rfl ?_;refine Zw (.bool true) (Zl (b := (!y11)) rfl (Tg o0 rfl)) rfl ?_;refine Zg (.bool true) rfl rfl ?_;refine Zb ?_;obtain rfl := sinj h;exact hQ _ _ ⟨i6, hfr, rfl⟩
   ·refine Zx (.int .i64 (x0)) (Zk rfl) rfl rfl o0 rfl ?_
    refine Zx (.int .i64 (x1)) (Zk rfl) rfl rfl o0 rfl ?_;refine Zx (.bool ((decide (x0 < x1)))) (Gj rfl rfl rfl) rfl rfl o0 rfl ?_;refine Zw (.bool ((decide (x0 < x1)))) (Zl (b := (!y11)) rfl (Tq o0 rfl)) rfl ?_;refine Zg (.bool ((decide (x0 < x1)))) rfl rfl ?_;refine Zb ?_;obtain rfl := sinj h;exact hQ _ _ ⟨i6, hfr, rfl⟩
  ·refine Zy rfl rfl hc9 rfl rfl ?_
   refine Zy rfl rfl hc9 rfl rfl ?_;refine Zy rfl rfl hc9 rfl rfl ?_;refine Zw (.bool false) (Zl (b := y8) rfl (Tq hc9 rfl)) rfl ?_;refine Zn (.bool false) rfl rfl ?_;refine Zx (.int .i64 (x0)) (Zk rfl) rfl rfl rfl rfl ?_;refine Zx (.int .i64 (x1)) (Zk rfl) rfl rfl rfl rfl ?_;refine Zx (.bool ((decide (x0 < x1)))) (Gj rfl rfl rfl) rfl rfl rfl rfl ?_;refine Zw (.bool ((decide (x0 < x1)))) (Zl (b := false) rfl (Tq rfl rfl)) rfl ?_;refine Zg (.bool ((decide (x0 < x1)))) rfl rfl ?_;refine Zb ?_;obtain rfl := sinj h;exact hQ _ _ ⟨g7, hfr, rfl⟩
 ·clear hx
  obtain ⟨aB, hfr, t5⟩ := hR;refine Gq ?_;obtain rfl := sinj h;exact Qr rfl rfl (show _ = .bool (l5) from t5) ⟨_, hfr, rfl⟩
def f96 (z0 : Gb) (z1 : Int) (σ : Type) (cons : Cn σ Int) (s0 : σ) : Option σ :=
 lp (σ := σ × Int) (fun k4 (l8, o0) =>
  bif (decide (o0 < ((((z0).ChainBelt).Cards).length : Int))) then
   jn (σ := σ) (fun i6 =>
    k4 (i6, (w64 (o0 + (1 : Int))))
    ) fun k14 =>
   (f22 z0 z1 o0).bind fun n9 =>
   (cons l8 n9).bind fun (n8, g8) =>
   bif (!n8) then
    some g8
   else
    k14 (g8)
  else
   some l8
  ) big (s0, (0 : Int))
theorem en96 : Enters Try.prog 96 := enters_of Try.func96 (by kernel_rfl) rfl
theorem wk96 {σ : Type} {cons : Cn σ Int} {s0 r : σ} {gI : Gh} {wI : World} {z0 : Gb} {z1 : Int} {pf0 : Value} (qf0 : PT gI.m wI z0 pf0) {pf1 : Value} (qf1 : PT gI.m wI z1 pf1) (h : f96 z0 z1 σ cons s0 = some r) : Nj Try.prog (RA1 (α := Int)) 96 #[] #[pf0, pf1] gI wI cons s0 r := by
 unfold f96 at h;refine Cv Try.func96 rfl (Nat.le_of_ble_eq_true rfl) fun l B J g0 hm hAb hRo hfr => ?_;have qf0 : PT g0.m wI z0 pf0 := hm ▸ qf0;have qf1 : PT g0.m wI z1 pf1 := hm ▸ qf1;show E _ 20 none _ _ (Uo #[.func (.yield l) #[] #[], pf0, pf1]) _ _;refine Zf (Za (Zw (Gk pf0 0) (Zc Jr rfl (PT.ptr qf0)) rfl ?_));have q1 := Zm (Qe).1 qf0;refine Zw (Gk (Gk pf0 0) 1) (Zc Wm rfl (PT.ptr q1)) rfl ?_;have q2 := Zm (Tc).1 q1;refine Ze .plain rfl (Gf (g := g0) Try.isAgg25 Try.sizeOf25 rfl q2 fun v3 r3 => ?_);refine Zw (.int .i64 ((((z0).ChainBelt).Cards).length : Int)) (Tu Try.underlying25 rfl r3) rfl ?_;refine Zn (.int .i64 (0)) rfl rfl ?_;refine Zb (Zd (Zr ?_));refine Wv h (fun (s : σ × Int) e w => ∃ (g : Gh) , FrY gI wI B J (s.1) g w ∧ e 0 = (.func (.yield l) #[] #[]) ∧ e 1 = pf0 ∧ PT g.m w (z0 : Gb) pf0 ∧ e 2 = pf1 ∧ PT g.m w (z1 : Int) pf1 ∧ e 8 = .int .i64 (((((z0).ChainBelt).Cards).length : Int)) ∧ e 9 = .int .i64 (s.2)) ⟨g0, hfr, rfl, rfl, qf0, rfl, qf1, rfl, rfl⟩ (fun X4 k4 hk4 => ?_);rintro ⟨l8, o0⟩ mE w5 ⟨g5, hfr, aB, lB, l5, mB, t5, nB, v8⟩ h;refine Zf (Za (Zw (.bool ((decide (o0 < ((((z0).ChainBelt).Cards).length : Int))))) (Gj v8 nB rfl) rfl ?_));refine Zb (Zd (Zf ?_));rcases Zt h with ⟨hc6, h⟩ | ⟨hc6, h⟩
 ·refine Tn hc6 rfl ?_
  refine Zu (Zd (Zq h (fun (s : σ) e w => ∃ (g : Gh) , FrY gI wI B J (s) g w ∧ e 0 = (.func (.yield l) #[] #[]) ∧ e 1 = pf0 ∧ PT g.m w (z0 : Gb) pf0 ∧ e 2 = pf1 ∧ PT g.m w (z1 : Int) pf1 ∧ e 8 = .int .i64 (((((z0).ChainBelt).Cards).length : Int)) ∧ e 9 = .int .i64 (o0)) (fun X14 k14 bD h => ?_) ?_))
  ·refine Zr ?_
   refine Zf (Za (Zo v8 rfl ?_));refine Zg (.int .i64 (o0)) rfl rfl ?_;refine Zb (Zd (Zf (Za (Zo aB rfl ?_))));refine Ze .plain rfl (Gf (g := g5) Try.isAgg66 Try.sizeOf66 lB l5 fun lD nD => ?_);refine Ze .plain rfl (Gf (g := g5) Try.isAgg3 Try.sizeOf3 mB t5 fun oE oD => ?_);obtain rfl := Zj.1 oD;refine Zn (.int .i64 (o0)) rfl rfl ?_;obtain ⟨n9, cD, h⟩ := Ga h;refine Ze .plain rfl (Zp (g := g5) (vs := [lD, .int .i64 (z1), .int .i64 (o0)]) en22 (.cons rfl (.cons rfl (.cons rfl .nil))) (wk22 nD cD) fun yD iE rE hs hr => ?_);have hfr := hfr.ext_ hAb hs;have l5 := l5.ext hs;have t5 := t5.ext hs;subst hr;obtain ⟨zD, hy20, h⟩ := Ga h;obtain ⟨n8, g8⟩ := zD;refine Ze .plain rfl (Mj (g := yD) (x := n9) rfl (.cons rfl .nil) hRo hfr hy20 ⟨_, rfl, (Zj.2 rfl)⟩ fun aE uE hs hfrY => ?_);have l5 := l5.stp hs;have t5 := t5.stp hs;have hfr := hfrY;clear hfrY;refine Zw (.bool (!n8)) (Wh rfl) rfl ?_;refine Zb (Zd ?_);rcases Zt h with ⟨l9, h⟩ | ⟨l9, h⟩
   ·refine Tn l9 rfl ?_
    refine Gq (Wd ?_);refine Tz ?_;refine Tz ?_;refine Wd ?_;obtain rfl := sinj h;exact end0 rfl rfl (FrY.done hfr)
   ·refine To l9 rfl ?_
    exact Zu (Ts (Zd (bD (g8) _ _ ⟨aE, hfr, aB, lB, l5, mB, t5, nB, v8⟩ h)))
  ·rintro i6 lE vE ⟨bE, hfr, oB, vB, yB, zB, cC, uC, vC⟩ h
   refine Za (Gg (.int .i64 ((w64 (o0 + (1 : Int))))) vC rfl rfl rfl ?_);refine Zn (.int .i64 ((w64 (o0 + (1 : Int))))) rfl rfl ?_;exact Zb (Zd (hk4 (i6, (w64 (o0 + (1 : Int)))) _ _ ⟨bE, hfr, oB, vB, yB, zB, cC, uC, rfl⟩ h))
 ·refine To hc6 rfl ?_
  refine Qc ?_;refine Tf ?_;refine Tf ?_;refine Tl ?_;obtain rfl := sinj h;exact Vu rfl rfl (FrY.done hfr)
def f99 (x0 : List Int) : Option (Bool) :=
 some ((decide (((x0).length : Int) > (6 : Int))))
theorem en99 : Enters Try.prog 99 := enters_of Try.func99 (by kernel_rfl) rfl
theorem wk99 {gI : Gh} {wI : World} {x0 : List Int} {up0 : Value} (rp0 : RV gI.m wI x0 up0) {r : Bool} (h : f99 x0 = some r) : Fn Try.prog 99 #[up0] gI wI (fun _ _ v => v = .bool (r)) := by
 unfold f99 at h;refine Gw Try.func99 rfl (Nat.le_of_ble_eq_true rfl) fun g0 hm hfr => ?_;have rp0 : RV g0.m wI x0 up0 := hm ▸ rp0;show E _ 6 none _ _ _ _ _;refine Zf (Za (Zg (.bool false) rfl rfl ?_));refine Zb (Zd (Zf (Za (Zn up0 rfl rfl ?_))));refine Zw (.int .i64 ((x0).length : Int)) (Tu Try.underlying31 rfl rp0) rfl ?_;refine Gg (.bool ((decide (((x0).length : Int) > (6 : Int))))) rfl rfl rfl rfl ?_;refine Zg (.bool ((decide (((x0).length : Int) > (6 : Int))))) rfl rfl ?_;refine Zb (Zd (Gq ?_));obtain rfl := sinj h;exact Qr rfl rfl (show _ = .bool ((decide (((x0).length : Int) > (6 : Int)))) from rfl) ⟨_, hfr, rfl⟩
def f100 (x0 : List Int) (z0 : Gu) : Option (Bool) :=
 some ((((x0).length : Int) != ((((z0).PayTable).Down).length : Int)))
theorem en100 : Enters Try.prog 100 := enters_of Try.func100 (by kernel_rfl) rfl
theorem wk100 {gI : Gh} {wI : World} {x0 : List Int} {z0 : Gu} {up0 : Value} (rp0 : RV gI.m wI x0 up0) {pf0 : Value} (qf0 : PT gI.m wI z0 pf0) {r : Bool} (h : f100 x0 z0 = some r) : Fn Try.prog 100 #[up0, pf0] gI wI (fun _ _ v => v = .bool (r)) := by
 unfold f100 at h;refine Gw Try.func100 rfl (Nat.le_of_ble_eq_true rfl) fun g0 hm hfr => ?_;have qf0 : PT g0.m wI z0 pf0 := hm ▸ qf0;have rp0 : RV g0.m wI x0 up0 := hm ▸ rp0;show E _ 11 none _ _ _ _ _;refine Zf (Za (Zg (.bool false) rfl rfl ?_));refine Zb (Zd (Zf (Za (Zn up0 rfl rfl ?_))));refine Zw (.int .i64 ((x0).length : Int)) (Tu Try.underlying31 rfl rp0) rfl ?_;refine Zw (Gk pf0 0) (Zc Qi rfl (PT.ptr qf0)) rfl ?_;have q1 := Zm (Ta).1 qf0;refine Zw (Gk (Gk pf0 0) 2) (Zc Xt rfl (PT.ptr q1)) rfl ?_;have q2 := Zm (Ks).1 q1;refine Ze .plain rfl (Gf (g := g0) Try.isAgg31 Try.sizeOf31 rfl q2 fun v3 r3 => ?_);refine Zw (.int .i64 ((((z0).PayTable).Down).length : Int)) (Tu Try.underlying31 rfl r3) rfl ?_;refine Zw (.bool ((((x0).length : Int) != ((((z0).PayTable).Down).length : Int)))) (Gj rfl rfl rfl) rfl ?_;refine Zw (.bool ((((x0).length : Int) != ((((z0).PayTable).Down).length : Int)))) (Tb rfl) rfl ?_;refine Zb (Zd (Gq ?_));obtain rfl := sinj h;exact Qr rfl rfl (show _ = .bool ((((x0).length : Int) != ((((z0).PayTable).Down).length : Int))) from rfl) ⟨_, hfr, rfl⟩
def f101 (x1 : Int) : Option ((List Int)) :=
 Option.bind (α := Unit) (
  bif (decide (x1 < (0 : Int))) then
   none
  else
   some ()
  ) fun (_ : Unit) =>
 Option.bind (α := (List Int)) (
  bif (decide ((w64 (x1 - (w64 (((0 : Nat) : Int) - ((([] : List Int)).length : Int))))) > (0 : Int))) then
   (grwz 8 ((w64 (x1 - (w64 (((0 : Nat) : Int) - ((([] : List Int)).length : Int))))))).bind fun _ =>
   some (([] : List Int))
  else
   some (([] : List Int))
  ) fun t5 =>
 some (t5)
theorem en101 : Enters Try.prog 101 := enters_of Try.func101 (by kernel_rfl) rfl
theorem wk101 {iO : Nat} {gI : Gh} {wI : World} {x1 : Int}  {r : (List Int)} (h : f101 x1 = some r) : FnG Try.prog 101 #[.slice none 0 0, .int .i64 (x1)] gI wI (fun g w v => OS iO g w 3 r v ∧ RV g.m w r v) := by
 unfold f101 at h;refine Dt Try.func101 rfl (Nat.le_of_ble_eq_true rfl) fun g0 hm hfr => ?_;show E _ 27 none _ _ _ _ _;refine Zf (Za (Zg (.slice none 0 0) rfl rfl ?_));refine Zb (Zd ?_);obtain ⟨_, hx, h⟩ := Ga h;refine Gp (fun e w => ∃ (g : Gh) , Fr gI wI g w ∧ e 0 = .slice none 0 0 ∧ RV g.m w (([] : List Int) : List Int) (Value.slice none 0 0) ∧ e 1 = .int .i64 (x1)) (fun Q' hQ => ?_) (fun aB w3 hR => ?_)
 ·replace h := hx
  clear hx;refine Zf (Za (Zn (.int .i64 (x1)) rfl rfl ?_));refine Gg (.bool ((decide (x1 < (0 : Int))))) rfl rfl rfl rfl ?_;refine Zb (Zd ?_);rcases Zt h with ⟨hc2, h⟩ | ⟨hc2, h⟩
  ·refine Tn hc2 rfl ?_
   refine Za ?_
   cases h
  ·refine To hc2 rfl ?_
   refine Zu ?_;obtain rfl := sinj h;exact hQ _ _ ⟨g0, hfr, rfl, He, rfl⟩
 ·clear hx
  obtain ⟨g3, hfr, o0, l5, l8⟩ := hR;obtain ⟨t5, hx, h⟩ := Ga h;refine Gp (fun e w => ∃ (g : Gh) (v0 : Value), Fr gI wI g w ∧ e 0 = v0 ∧ RV g.m w (t5 : List Int) v0 ∧ OS 4022 g w 3 (t5 : List Int) v0) (fun Q' hQ => ?_) (fun lB w8 hR => ?_)
  ·replace h := hx
   clear hx;refine Zf (Za (Zo l8 rfl ?_));refine Zo o0 rfl ?_;refine Zw (.int .i64 ((0 : Nat) : Int)) (P_cap Try.underlying31 rfl) rfl ?_;refine Zo o0 rfl ?_;refine Zw (.int .i64 ((([] : List Int)).length : Int)) (Tu Try.underlying31 rfl l5) rfl ?_;refine Zw (.int .i64 ((w64 (((0 : Nat) : Int) - ((([] : List Int)).length : Int))))) (Gj rfl rfl rfl) rfl ?_;refine Zw (.int .i64 ((w64 (x1 - (w64 (((0 : Nat) : Int) - ((([] : List Int)).length : Int))))))) (Gj rfl rfl rfl) rfl ?_;refine Zw (.int .i64 ((w64 (x1 - (w64 (((0 : Nat) : Int) - ((([] : List Int)).length : Int))))))) (Tb rfl) rfl ?_;refine Zb (Zd (Zf (Za (Zw (.int .i64 ((w64 (x1 - (w64 (((0 : Nat) : Int) - ((([] : List Int)).length : Int))))))) (Zk rfl) rfl ?_))));refine Zw (.bool ((decide ((w64 (x1 - (w64 (((0 : Nat) : Int) - ((([] : List Int)).length : Int))))) > (0 : Int))))) (Gj rfl rfl rfl) rfl ?_;refine Zb (Zd ?_);rcases Zt h with ⟨hc6, h⟩ | ⟨hc6, h⟩
   ·refine Tn hc6 rfl ?_
    refine Za (Zo o0 rfl ?_);refine Zo o0 rfl ?_;refine Zw (.int .i64 ((0 : Nat) : Int)) (P_cap Try.underlying31 rfl) rfl ?_;refine Zw (.slice none 0 0) (Iz Try.underlying31 Try.sizeOf3 rfl rfl (fun p hp => by cases hp)) rfl ?_;refine Zw (.int .i64 ((w64 (x1 - (w64 (((0 : Nat) : Int) - ((([] : List Int)).length : Int))))))) (Zk rfl) rfl ?_;obtain ⟨y7, n9, h⟩ := Ga h;refine Ze .plain rfl (D_growZ (g := g3) (α := Int) 4022 Try.underlying31 Try.underlying3 Hi rfl (Nat.le_of_ble_eq_true rfl) rfl rfl n9 fun g7 w7 b7 c7 m7 hs o7 r7 => ?_);have hfr := hfr.stp hs;have l5 := l5.stp hs;refine Zo o0 rfl ?_;refine Zw (.int .i64 ((([] : List Int)).length : Int)) (Tu Try.underlying31 rfl l5) rfl ?_;refine Zw ((.slice (some ⟨b7, 0, none⟩) 0 c7)) (Iz Try.underlying31 Try.sizeOf3 rfl rfl (fun p hp => by cases hp; rfl)) rfl ?_;refine Zg ((.slice (some ⟨b7, 0, none⟩) 0 c7)) rfl rfl ?_;refine Zb ?_;obtain rfl := sinj h;exact hQ _ _ ⟨g7, ((.slice (some ⟨b7, 0, none⟩) 0 c7)), hfr, rfl, r7, o7⟩
   ·refine To hc6 rfl ?_
    refine Zu ?_;obtain rfl := sinj h;exact hQ _ _ ⟨g3, (.slice none 0 0), hfr, o0, l5, OS.nil⟩
  ·clear hx
   obtain ⟨g8, i6, hfr, n8, v8, l9⟩ := hR;refine Zf (Za (Zo n8 rfl ?_));refine Zg i6 rfl rfl ?_;refine Zb (Zd (Gq ?_));obtain rfl := sinj h;obtain ⟨gh, hxh, homh, hrvh⟩ := OS.handn (i := iO) hfr l9 v8;exact Qr rfl rfl (show _ = i6 from rfl) ⟨gh, hxh, homh, hrvh⟩
def f102 (x0 : List Int) (x1 : Int) (x2 : Int) (x3 : Int) (x4 : Int → Int → Option Int) : Option ((List Int)) :=
 lp (σ := (List Int) × Int) (fun k1 (l5, o0) =>
  jn (σ := Unit) (fun _ =>
   Option.bind (α := (List Int)) (
    (idx l5 (w64 (x2 + o0))).bind fun n8 =>
    (idx l5 (w64 (x1 + o0))).bind fun y44 =>
    (idx l5 (w64 (x1 + o0))).bind fun iE =>
    (idx ((List.set l5 (Int.toNat (w64 (x1 + o0))) n8)) (w64 (x2 + o0))).bind fun lE =>
    some ((List.set ((List.set l5 (Int.toNat (w64 (x1 + o0))) n8)) (Int.toNat (w64 (x2 + o0))) y44))
    ) fun g8 =>
   k1 (g8, (w64 (o0 + (1 : Int))))
   ) fun k4 =>
  bif (decide (o0 < x3)) then
   k4 ()
  else
   some (l5)
  ) big (x0, (0 : Int))
theorem en102 : Enters Try.prog 102 := enters_of Try.func102 (by kernel_rfl) rfl
theorem wk102 {iI : Nat} {gI : Gh} {wI : World} {x0 : List Int} {x1 : Int} {x2 : Int} {x3 : Int} {x4 : Int → Int → Option Int} {up0 : Value} (mp0 : OM iI gI wI 3 x0 up0) {up4 : Value} (rp4 : Ui Try.prog x4 up4 gI wI) {r : (List Int)} (h : f102 x0 x1 x2 x3 x4 = some r) : FnM Try.prog 102 #[up0, .int .i64 (x1), .int .i64 (x2), .int .i64 (x3), up4] iI gI wI (fun g w v => v = .tuple #[] ∧ OM iI g w 3 r up0) := by
 unfold f102 at h;refine Yd Try.func102 rfl (Nat.le_of_ble_eq_true rfl) fun g0 hm hfr => ?_;have zB := mp0;replace mp0 := mp0.enter;rw [← hm] at mp0
 replace hm : g0.m = gI.m := by rw [hm]
 obtain ⟨ff4, fa4, fc4, rfl, fen4, fcl4⟩ := rp4;show E _ 38 none _ _ _ _ _;refine Zf (Za (Zg (.int .i64 (0)) rfl rfl ?_));refine Zb (Zd (Zr ?_));refine Wv h (fun (s : (List Int) × Int) e w => ∃ (g : Gh) , FrM iI gI wI g w ∧ e 0 = up0 ∧ OM 1 g w 3 (s.1 : List Int) up0 ∧ e 1 = .int .i64 (x1) ∧ e 2 = .int .i64 (x2) ∧ e 3 = .int .i64 (x3) ∧ e 10 = .int .i64 (s.2)) ⟨g0, hfr, rfl, mp0, rfl, rfl, rfl, rfl⟩ (fun X1 k1 hk1 => ?_);rintro ⟨l5, o0⟩ zE w2 ⟨g2, hfr, nD, aB, oD, yD, lB, n9⟩ h;refine Zq h (fun (s : Unit) e w => ∃ (g : Gh) , FrM iI gI wI g w ∧ e 0 = up0 ∧ OM 1 g w 3 (l5 : List Int) up0 ∧ e 1 = .int .i64 (x1) ∧ e 2 = .int .i64 (x2) ∧ e 3 = .int .i64 (x3) ∧ e 10 = .int .i64 (o0)) (fun X4 k4 hk4 h => ?_) ?_
 ·refine Zf (Za (Zo n9 rfl ?_))
  refine Zo lB rfl ?_;refine Gg (.bool ((decide (o0 < x3)))) rfl rfl rfl rfl ?_;refine Zb (Zd ?_);rcases Zt h with ⟨hc5, h⟩ | ⟨hc5, h⟩
  ·refine Tn hc5 rfl ?_
   exact Zu (Zd (hk4 () _ _ ⟨g2, hfr, nD, aB, oD, yD, lB, n9⟩ h))
  ·refine To hc5 rfl ?_
   refine Qc ?_;refine Tf ?_;refine Tf ?_;refine Tl ?_;obtain rfl := sinj h;exact Vu rfl rfl ⟨_, hfr, rfl, zB.back aB⟩
 ·rintro _ cF w6 ⟨g6, hfr, l8, t5, v8, l9, zD, i6⟩ h
  obtain ⟨g8, hx, h⟩ := Ga h;refine Gp (fun e w => ∃ (g : Gh) , FrM iI gI wI g w ∧ e 0 = up0 ∧ OM 1 g w 3 (g8 : List Int) up0 ∧ e 1 = .int .i64 (x1) ∧ e 2 = .int .i64 (x2) ∧ e 3 = .int .i64 (x3) ∧ e 10 = .int .i64 (o0)) (fun Q' hQ => ?_) (fun yE dF hR => ?_)
  ·replace h := hx
   clear hx;refine Zr ?_;obtain ⟨n8, mB, h⟩ := Ga h;refine Ww (x := .tmp 28) Try.isAgg3 Try.sizeOf3 t5 mB fun eF mE aE => ?_;obtain rfl := Zj.1 mE;obtain ⟨y44, nB, h⟩ := Ga h;refine Ww (x := .tmp 34) Try.isAgg3 Try.sizeOf3 t5 nB fun rF oE bE => ?_;obtain rfl := Zj.1 oE;obtain ⟨iE, oB, h⟩ := Ga h;refine Ur (g := g6) (n := 21) [4, 5, 6, 7] [] [0, 1, 2, 3, 4, 5, 6, 7, 8, 9, 10, 11, 12, 13, 14, 15, 16, 17, 18, 19, 20] rfl Qq (by kernel_rfl) trivial rfl ?_;refine Zz up0 rfl rfl (Zk l8) ?_;refine Zz (.int .i64 (x1)) rfl rfl (Zk v8) ?_;refine Zz (.int .i64 (o0)) rfl rfl (Zk i6) ?_;refine Zz (.int .i64 ((w64 (x1 + o0)))) rfl rfl (Gj rfl rfl rfl) ?_;refine Jf (c := up0) rfl rfl .plain (Zk l8) ?_;refine Jf (c := .int .i64 (x2)) rfl rfl .plain (Zk l9) ?_;refine Jf (c := .int .i64 (o0)) rfl rfl .plain (Zk i6) ?_;refine Jf (c := .int .i64 ((w64 (x2 + o0)))) rfl rfl .plain (Gj rfl rfl rfl) ?_;refine Zz up0 rfl rfl (Zk l8) ?_;refine Zz (.int .i64 (x2)) rfl rfl (Zk l9) ?_;refine Zz (.int .i64 (o0)) rfl rfl (Zk i6) ?_;refine Zz (.int .i64 ((w64 (x2 + o0)))) rfl rfl (Gj rfl rfl rfl) ?_;refine Zz (Ty up0 (w64 (x2 + o0)) 1) rfl rfl (Gx (α := Int) Try.underlying31 Try.sizeOf3 rfl t5 rfl mB) ?_;refine Tt (c := .int .i64 (n8)) rfl rfl .plain (fun _ _ h => ⟨h.ch, fun b hb _ => h.below.block b hb⟩) aE rfl ?_;refine Zz up0 rfl rfl (Zk l8) ?_;refine Zz (.int .i64 (x1)) rfl rfl (Zk v8) ?_;refine Zz (.int .i64 (o0)) rfl rfl (Zk i6) ?_;refine Zz (.int .i64 ((w64 (x1 + o0)))) rfl rfl (Gj rfl rfl rfl) ?_;refine Zz (Ty up0 (w64 (x1 + o0)) 1) rfl rfl (Gx (α := Int) Try.underlying31 Try.sizeOf3 rfl t5 rfl nB) ?_;refine Tt (c := .int .i64 (y44)) rfl rfl .plain (fun _ _ h => ⟨h.ch, fun b hb _ => h.below.block b hb⟩) bE rfl ?_;refine Zz (Ty up0 (w64 (x1 + o0)) 1) rfl rfl (Gx (α := Int) Try.underlying31 Try.sizeOf3 rfl t5 rfl oB) ?_;refine Kr fun lD rE hs => ?_;have hlt : Lt g6.m w6 lD rE := hs.ch;have hfr := hfr.ext hs;have t5 := t5.ext hs;clear hs;refine Vq hlt.w .plain rfl (Kz (g := lD) (α := Int) (a' := n8) Try.sizeOf3 rfl t5 oB rfl (Zj.2 rfl) fun uE sF hs b75 => ?_);have hfr := hfr.stp hs;have hlt := hlt.stp hs;obtain ⟨lE, vB, h⟩ := Ga h;refine Sd hlt.w (v := Ty up0 (w64 (x2 + o0)) 1) (Gx (α := Int) Try.underlying31 Try.sizeOf3 rfl b75 rfl vB) .plain rfl ?_;refine Vq hlt.w .plain rfl (Kz (g := uE) (α := Int) (a' := y44) Try.sizeOf3 rfl b75 vB rfl (Zj.2 rfl) fun vE tF hs b77 => ?_);have hfr := hfr.stp hs;have hlt := hlt.stp hs;refine Sb hlt.w ?_;clear hlt;refine Ts ?_;obtain rfl := sinj h;exact hQ _ _ ⟨vE, hfr, l8, b77, v8, l9, zD, i6⟩
  ·clear hx
   obtain ⟨xE, hfr, cC, uC, vC, bD, cD, yB⟩ := hR;refine Za (Zo yB rfl ?_);refine Gg (.int .i64 ((w64 (o0 + (1 : Int))))) rfl rfl rfl rfl ?_;refine Zg (.int .i64 ((w64 (o0 + (1 : Int))))) rfl rfl ?_;exact Zb (Zd (hk1 (g8, (w64 (o0 + (1 : Int)))) _ _ ⟨xE, hfr, cC, uC, vC, bD, cD, rfl⟩ h))
def f103 (x0 : List (List Int)) (x1 : (List Int) → Option Bool) : Option (Int) :=
 jn (σ := Unit) (fun _ =>
  some ((-1 : Int))
  ) fun k18 =>
 lp (σ := Int) (fun k19 o0 =>
  bif (decide (o0 < ((x0).length : Int))) then
   jn (σ := Unit) (fun _ =>
    k19 ((w64 (o0 + (1 : Int))))
    ) fun k28 =>
   (idx x0 o0).bind fun vB =>
   (x1 vB).bind fun yB =>
   bif yB then
    some (o0)
   else
    k28 ()
  else
   k18 ()
  ) big ((0 : Int))
theorem en103 : Enters Try.prog 103 := enters_of Try.func103 (by kernel_rfl) rfl
theorem wk103 {gI : Gh} {wI : World} {x0 : List (List Int)} {x1 : (List Int) → Option Bool} {up0 : Value} (rp0 : RV gI.m wI x0 up0) {up1 : Value} (rp1 : Sq Try.prog x1 up1 gI wI) {r : Int} (h : f103 x0 x1 = some r) : Fn Try.prog 103 #[up0, up1] gI wI (fun _ _ v => v = .int .i64 (r)) := by
 unfold f103 at h;refine Gw Try.func103 rfl (Nat.le_of_ble_eq_true rfl) fun g0 hm hfr => ?_;have rp0 : RV g0.m wI x0 up0 := hm ▸ rp0;obtain ⟨ff1, fa1, fc1, rfl, fen1, fcl1⟩ := rp1;show E _ 19 none _ _ _ _ _;refine Zf (Za (Zg (.int .i64 (0)) rfl rfl ?_));refine Zb (Zd (Zq h (fun (s : Unit) e w => ∃ (g : Gh) , Fr gI wI g w) (fun X18 k18 zB h => ?_) ?_))
 ·refine Zf (Za (Zn up0 rfl rfl ?_))
  refine Zw (.int .i64 ((x0).length : Int)) (Tu Try.underlying76 rfl rp0) rfl ?_;refine Zn (.int .i64 (0)) rfl rfl ?_;refine Zb (Zd (Zr ?_));refine Wv h (fun (s : Int) e w => ∃ (g : Gh) , Fr gI wI g w ∧ e 0 = up0 ∧ RV g.m w (x0 : List (List Int)) up0 ∧ e 1 = (.func (.func ff1) fa1 fc1) ∧ e 7 = .int .i64 (((x0).length : Int)) ∧ e 8 = .int .i64 (s)) ⟨g0, hfr, rfl, rp0, rfl, rfl, rfl⟩ (fun X19 k19 cC => ?_);rintro o0 yD bE ⟨l9, hfr, l8, l5, n8, v8, t5⟩ h;refine Zf (Za (Gg (.bool ((decide (o0 < ((x0).length : Int))))) t5 v8 rfl rfl ?_));refine Zb (Zd (Zf ?_));rcases Zt h with ⟨i6, h⟩ | ⟨i6, h⟩
  ·refine Tn i6 rfl ?_
   refine Zu (Zd (Zq h (fun (s : Unit) e w => ∃ (g : Gh) , Fr gI wI g w ∧ e 0 = up0 ∧ RV g.m w (x0 : List (List Int)) up0 ∧ e 1 = (.func (.func ff1) fa1 fc1) ∧ e 7 = .int .i64 (((x0).length : Int)) ∧ e 8 = .int .i64 (o0)) (fun X28 k28 uC h => ?_) ?_))
   ·refine Zr ?_
    refine Zf (Za (Zo t5 rfl ?_));refine Zg (.int .i64 (o0)) rfl rfl ?_;refine Zb (Zd (Zf (Za (Zo n8 rfl ?_))));refine Zo l8 rfl ?_;refine Zn (.int .i64 (o0)) rfl rfl ?_;obtain ⟨vB, n9, h⟩ := Ga h;refine Zw (Ty up0 o0 1) (Zh (α := List Int) Try.underlying76 Try.sizeOf31 rfl l5 rfl n9) rfl ?_;have bD := Tp l5 n9;refine Ze .plain rfl (Gf (g := l9) Try.isAgg31 Try.sizeOf31 rfl bD fun cD lD => ?_);obtain ⟨yB, vC, h⟩ := Ga h;refine Ze .plain rfl (Yp (g := l9) (vs := [cD]) rfl fen1 (.cons rfl .nil) (fcl1 _ _ hfr.ch _ _ _  lD vC) fun nD iE lE hs hr => ?_);have hfr := hfr.ext hs;have l5 := l5.ext hs;obtain rfl := Kl.1 hr;refine Zb (Zd ?_);rcases Zt h with ⟨g8, h⟩ | ⟨g8, h⟩
    ·refine Tn g8 rfl ?_
     refine Zf (Za (Zn (.int .i64 (o0)) rfl rfl ?_));refine Zg (.int .i64 (o0)) rfl rfl ?_;refine Zb (Zd (Gq (Wd ?_)));refine Tz ?_;refine Tz ?_;refine Wd ?_;refine Tz ?_;obtain rfl := sinj h;exact Qr rfl rfl (show _ = .int .i64 (o0) from rfl) ⟨_, hfr, rfl⟩
    ·refine To g8 rfl ?_
     exact Zu (Ts (Zd (uC () _ _ ⟨nD, hfr, l8, l5, n8, v8, t5⟩ h)))
   ·rintro _ zD mE ⟨oD, hfr, aB, lB, mB, nB, oB⟩ h
    refine Za (Gg (.int .i64 ((w64 (o0 + (1 : Int))))) oB rfl rfl rfl ?_);refine Zn (.int .i64 ((w64 (o0 + (1 : Int))))) rfl rfl ?_;exact Zb (Zd (cC ((w64 (o0 + (1 : Int)))) _ _ ⟨oD, hfr, aB, lB, mB, nB, rfl⟩ h))
  ·refine To i6 rfl ?_
   refine Qc ?_;refine Tf ?_;refine Tf ?_;refine Tl ?_;exact Zd (zB () _ _ ⟨l9, hfr⟩ h)
 ·rintro _ aE oE ⟨rE, hfr⟩ h
  refine Zf (Za (Zg (.int .i64 (-1)) rfl rfl ?_));refine Zb (Zd (Gq ?_));obtain rfl := sinj h;exact Qr rfl rfl (show _ = .int .i64 (-1) from rfl) ⟨_, hfr, rfl⟩
def f39 (x0 : List Int) (x1 : Int → Option Bool) : Option (Bool) :=
 (f63 x0 x1).bind fun y2 =>
 some ((decide (y2 ≥ (0 : Int))))
theorem en39 : Enters Try.prog 39 := enters_of Try.func39 (by kernel_rfl) rfl
theorem wk39 {gI : Gh} {wI : World} {x0 : List Int} {x1 : Int → Option Bool} {up0 : Value} (rp0 : RV gI.m wI x0 up0) {up1 : Value} (rp1 : Sq Try.prog x1 up1 gI wI) {r : Bool} (h : f39 x0 x1 = some r) : Fn Try.prog 39 #[up0, up1] gI wI (fun _ _ v => v = .bool (r)) := by
 unfold f39 at h;refine Gw Try.func39 rfl (Nat.le_of_ble_eq_true rfl) fun g0 hm hfr => ?_;have rp0 : RV g0.m wI x0 up0 := hm ▸ rp0;obtain ⟨ff1, fa1, fc1, rfl, fen1, fcl1⟩ := rp1;show E _ 9 none _ _ _ _ _;refine Zf (Za (Zg (.bool false) rfl rfl ?_));refine Zb (Zd (Zf (Za (Zn up0 rfl rfl ?_))));refine Zn ((.func (.func ff1) fa1 fc1)) rfl rfl ?_;obtain ⟨y2, hy2, h⟩ := Ga h;refine Ze .plain rfl (Zp (g := g0) (vs := [up0, (.func (.func ff1) fa1 fc1)]) en63 (.cons rfl (.cons rfl .nil)) (wk63 rp0 (Sq.ch ⟨_, _, _, rfl, fen1, fcl1⟩ hfr.ch) hy2) fun g1 w1_ v1 hs hr => ?_);have hfr := hfr.ext hs;subst hr;refine Gg (.bool ((decide (y2 ≥ (0 : Int))))) rfl rfl rfl rfl ?_;refine Zg (.bool ((decide (y2 ≥ (0 : Int))))) rfl rfl ?_;refine Zb (Zd (Gq ?_));obtain rfl := sinj h;exact Qr rfl rfl (show _ = .bool ((decide (y2 ≥ (0 : Int)))) from rfl) ⟨_, hfr, rfl⟩
def f43 (x0 : List Int) : Option (It (Int × Int)) :=
 some ((fun σ cons s => f65 x0 σ cons s))
theorem en43 : Enters Try.prog 43 := enters_of Try.func43 (by kernel_rfl) rfl
theorem wk43 {gI : Gh} {wI : World} {x0 : List Int} {up0 : Value} (rp0 : RV gI.m wI x0 up0) {r : It (Int × Int)} (h : f43 x0 = some r) : Fn Try.prog 43 #[up0] gI wI (fun m w v => ItV Try.prog (RA2 (α := Int) (β := Int)) (r) v m w) := by
 unfold f43 at h;refine Gw Try.func43 rfl (Nat.le_of_ble_eq_true rfl) fun g0 hm hfr => ?_;have rp0 : RV g0.m wI x0 up0 := hm ▸ rp0;show E _ 4 none _ _ _ _ _;refine Zf (Za (Ze .plain rfl (Qs (g := g0) rfl rp0 fun g1 w1 p1 hs q1 => ?_)));have hfr := hfr.ext hs;refine Zg (.nilFunc) rfl rfl ?_;refine Zb (Zd (Zf (Za (Zw ((.func (.func 65) #[] #[p1])) (Hy (Bj (show ev _ _ = p1 from rfl))) rfl ?_))));refine Zg ((.func (.func 65) #[] #[p1])) rfl rfl ?_;refine Zb (Zd (Gq ?_));obtain rfl := sinj h;exact Qr rfl rfl (show _ = (.func (.func 65) #[] #[p1]) from rfl) ⟨_, hfr, (show ItV Try.prog (RA2 (α := Int) (β := Int)) (fun σ cons s => f65 x0 σ cons s) ((.func (.func 65) #[] #[p1])) g1.m w1 from ⟨65, #[], #[p1], rfl, en65, fun g' w' hch σ cons s s' h => wk65  (q1.ch hch) h⟩)⟩
def f56 (x0 : Int) (x1 : Int) : Option (Int) :=
 (f75 x0).bind fun y2 =>
 (f75 x1).bind fun y4 =>
 jn (σ := Unit) (fun _ =>
  jn (σ := Unit) (fun _ =>
   jn (σ := Unit) (fun _ =>
    jn (σ := Unit) (fun _ =>
     some ((0 : Int))
     ) fun mB =>
    bif (decide (x0 > x1)) then
     some ((1 : Int))
    else
     mB ()
    ) fun nB =>
   bif (decide (x0 < x1)) then
    some ((-1 : Int))
   else
    nB ()
   ) fun k18 =>
  bif y4 then
   some ((1 : Int))
  else
   k18 ()
  ) fun oB =>
 bif y2 then
  jn (σ := Unit) (fun _ =>
   some ((-1 : Int))
   ) fun vB =>
  bif y4 then
   some ((0 : Int))
  else
   vB ()
 else
  oB ()
theorem en56 : Enters Try.prog 56 := enters_of Try.func56 (by kernel_rfl) rfl
theorem wk56 {gI : Gh} {wI : World} {x0 : Int} {x1 : Int}  {r : Int} (h : f56 x0 x1 = some r) : Fn Try.prog 56 #[.int .i64 (x0), .int .i64 (x1)] gI wI (fun _ _ v => v = .int .i64 (r)) := by
 unfold f56 at h;refine Gw Try.func56 rfl (Nat.le_of_ble_eq_true rfl) fun g0 hm hfr => ?_;show E _ 20 none _ _ _ _ _;refine Zf (Za (Zg (.int .i64 (0)) rfl rfl ?_));refine Zb (Zd (Zf (Za (Zn (.int .i64 (x0)) rfl rfl ?_))));obtain ⟨y2, hy2, h⟩ := Ga h;refine Ze .plain rfl (Zp (g := g0) (vs := [.int .i64 (x0)]) en75 (.cons rfl .nil) (wk75  hy2) fun g1 w1_ v1 hs hr => ?_);have hfr := hfr.ext hs;subst hr;refine Zg (.bool (y2)) rfl rfl ?_;refine Zb (Zd (Zf (Za (Zn (.int .i64 (x1)) rfl rfl ?_))));obtain ⟨y4, bD, h⟩ := Ga h;refine Ze .plain rfl (Zp (g := g1) (vs := [.int .i64 (x1)]) en75 (.cons rfl .nil) (wk75  bD) fun g3 w3_ v3 hs hr => ?_);have hfr := hfr.ext hs;subst hr;refine Zg (.bool (y4)) rfl rfl ?_;refine Zb (Zd (Zq h (fun (s : Unit) e w => ∃ (g : Gh) , Fr gI wI g w ∧ e 0 = .int .i64 (x0) ∧ e 1 = .int .i64 (x1) ∧ e 6 = .bool (y4)) (fun X10 oB yB h => ?_) ?_))
 ·refine Zf (Za (Zn (.bool (y2)) rfl rfl ?_))
  refine Zb (Zd ?_);rcases Zt h with ⟨o0, h⟩ | ⟨o0, h⟩
  ·refine Tn o0 rfl ?_
   refine Zq h (fun (s : Unit) e w => ∃ (g : Gh) , Fr gI wI g w) (fun X13 vB zB h => ?_) ?_
   ·refine Zf (Za (Zn (.bool (y4)) rfl rfl ?_))
    refine Zb (Zd ?_);rcases Zt h with ⟨l5, h⟩ | ⟨l5, h⟩
    ·refine Tn l5 rfl ?_
     refine Zf (Za (Zg (.int .i64 (0)) rfl rfl ?_));refine Zb (Zd (Gq (Tz ?_)));refine Tz ?_;obtain rfl := sinj h;exact Qr rfl rfl (show _ = .int .i64 (0) from rfl) ⟨_, hfr, rfl⟩
    ·refine To l5 rfl ?_
     exact Zu (Zd (zB () _ _ ⟨g3, hfr⟩ h))
   ·rintro _ oD w15 ⟨iE, hfr⟩ h
    refine Zf (Za (Zg (.int .i64 (-1)) rfl rfl ?_));refine Zb (Zd (Gq (Tz ?_)));obtain rfl := sinj h;exact Qr rfl rfl (show _ = .int .i64 (-1) from rfl) ⟨_, hfr, rfl⟩
  ·refine To o0 rfl ?_
   exact Zu (Zd (yB () _ _ ⟨g3, hfr, rfl, rfl, rfl⟩ h))
 ·rintro _ yD lE ⟨cD, hfr, v8, l9, n9⟩ h
  refine Zq h (fun (s : Unit) e w => ∃ (g : Gh) , Fr gI wI g w ∧ e 0 = .int .i64 (x0) ∧ e 1 = .int .i64 (x1)) (fun X18 k18 cC h => ?_) ?_
  ·refine Zf (Za (Zo n9 rfl ?_))
   refine Zb (Zd ?_);rcases Zt h with ⟨t5, h⟩ | ⟨t5, h⟩
   ·refine Tn t5 rfl ?_
    refine Zf (Za (Zg (.int .i64 (1)) rfl rfl ?_));refine Zb (Zd (Gq (Tz ?_)));obtain rfl := sinj h;exact Qr rfl rfl (show _ = .int .i64 (1) from rfl) ⟨_, hfr, rfl⟩
   ·refine To t5 rfl ?_
    exact Zu (Zd (cC () _ _ ⟨cD, hfr, v8, l9⟩ h))
  ·rintro _ zD mE ⟨lD, hfr, l8, n8⟩ h
   refine Zq h (fun (s : Unit) e w => ∃ (g : Gh) , Fr gI wI g w ∧ e 0 = .int .i64 (x0) ∧ e 1 = .int .i64 (x1)) (fun X22 nB uC h => ?_) ?_
   ·refine Zf (Za (Zo l8 rfl ?_))
    refine Zo n8 rfl ?_;refine Gg (.bool ((decide (x0 < x1)))) rfl rfl rfl rfl ?_;refine Zb (Zd ?_);rcases Zt h with ⟨i6, h⟩ | ⟨i6, h⟩
    ·refine Tn i6 rfl ?_
     refine Zf (Za (Zg (.int .i64 (-1)) rfl rfl ?_));refine Zb (Zd (Gq (Tz ?_)));obtain rfl := sinj h;exact Qr rfl rfl (show _ = .int .i64 (-1) from rfl) ⟨_, hfr, rfl⟩
    ·refine To i6 rfl ?_
     exact Zu (Zd (uC () _ _ ⟨lD, hfr, l8, n8⟩ h))
   ·rintro _ aE oE ⟨nD, hfr, aB, lB⟩ h
    refine Zq h (fun (s : Unit) e w => ∃ (g : Gh) , Fr gI wI g w) (fun X26 mB vC h => ?_) ?_
    ·refine Zf (Za (Zo aB rfl ?_))
     refine Zo lB rfl ?_;refine Gg (.bool ((decide (x0 > x1)))) rfl rfl rfl rfl ?_;refine Zb (Zd ?_);rcases Zt h with ⟨g8, h⟩ | ⟨g8, h⟩
     ·refine Tn g8 rfl ?_
      refine Zf (Za (Zg (.int .i64 (1)) rfl rfl ?_));refine Zb (Zd (Gq (Tz ?_)));obtain rfl := sinj h;exact Qr rfl rfl (show _ = .int .i64 (1) from rfl) ⟨_, hfr, rfl⟩
     ·refine To g8 rfl ?_
      exact Zu (Zd (vC () _ _ ⟨nD, hfr⟩ h))
    ·rintro _ bE rE ⟨uE, hfr⟩ h
     refine Zf (Za (Zg (.int .i64 (0)) rfl rfl ?_));refine Zb (Zd (Gq ?_));obtain rfl := sinj h;exact Qr rfl rfl (show _ = .int .i64 (0) from rfl) ⟨_, hfr, rfl⟩
def f58 (x0 : Gu) : Option ((List Int) × (List Int) × Int × Int) :=
 Option.bind (α := (List Int)) (
  lp (σ := (List Int) × Int) (fun zK (yE, l5) =>
   bif (decide (l5 < ((((x0).PayTable).Rows).length : Int))) then
    Option.bind (α := (List Int)) (
     (idx (((x0).PayTable).Rows) l5).bind fun y130 =>
     (f78 y130).bind fun l9 =>
     (idx (((x0).PayTable).Across) l5).bind fun n9 =>
     (apnd 8 yE (([(w64 (l9 - n9))] : List Int))).bind fun aH =>
     some (aH)
     ) fun vB =>
    zK (vB, (w64 (l5 + (1 : Int))))
   else
    some (yE)
   ) big ([], (0 : Int))
  ) fun l8 =>
 Option.bind (α := (List Int)) (
  lp (σ := (List Int) × Int) (fun cH (aE, o0) =>
   bif (decide (o0 < ((((x0).PayTable).Down).length : Int))) then
    Option.bind (α := (List Int)) (
     (idx (((x0).PayTable).Down) o0).bind fun uC =>
     (f79 x0 o0).bind fun gH =>
     (f78 gH).bind fun bE =>
     (apnd 8 aE (([(w64 (bE - uC))] : List Int))).bind fun jH =>
     some (jH)
     ) fun yB =>
    cH (yB, (w64 (o0 + (1 : Int))))
   else
    some (aE)
   ) big ([], (0 : Int))
  ) fun cD =>
 (f78 (((x0).PayTable).Across)).bind fun vC =>
 (f78 (((x0).PayTable).Down)).bind fun bD =>
 some (l8, cD, (w64 (vC - ((x0).PayTable).Total)), (w64 (bD - ((x0).PayTable).Total)))
theorem en58 : Enters Try.prog 58 := enters_of Try.func58 (by kernel_rfl) rfl
theorem wk58 {gI : Gh} {wI : World} {x0 : Gu} {up0 : Value} (rp0 : RV gI.m wI x0 up0) {r : (List Int) × (List Int) × Int × Int} (h : f58 x0 = some r) : Fn Try.prog 58 #[up0] gI wI (fun m w v => ∃ y0 y1 y2 y3, v = .tuple #[y0, y1, y2, y3] ∧ RV m w (r.1) y0 ∧ RV m w (r.2.1) y1 ∧ y2 = .int .i64 (r.2.2.1) ∧ y3 = .int .i64 (r.2.2.2)) := by
 unfold f58 at h;refine Gw Try.func58 rfl (Nat.le_of_ble_eq_true rfl) fun g0 hm hfr => ?_;have rp0 : RV g0.m wI x0 up0 := hm ▸ rp0;show E _ 69 none _ _ _ _ _;refine Zf (Za (Ze .plain rfl (Qs (g := g0) rfl rp0 fun g1 w1 p1 hs q1 => ?_)));have hfr := hfr.ext hs;refine Zg (.slice none 0 0) rfl rfl ?_;refine Zg (.slice none 0 0) rfl rfl ?_;refine Zg (.int .i64 (0)) rfl rfl ?_;refine Zg (.int .i64 (0)) rfl rfl ?_;refine Zb (Zd ?_);obtain ⟨l8, hx, h⟩ := Ga h;refine Gp (fun e w => ∃ (g : Gh) (v2 : Value), Fr gI wI g w ∧ e 1 = p1 ∧ PT g.m w (x0 : Gu) p1 ∧ e 2 = v2 ∧ RV g.m w (l8 : List Int) v2 ∧ OS 1002 g w 3 (l8 : List Int) v2 ∧ e 3 = .slice none 0 0 ∧ RV g.m w ([] : List Int) (Value.slice none 0 0)) (fun Q' hQ => ?_) (fun mN tN hR => ?_)
 ·replace h := hx
  clear hx;refine Zf (Za (Zw (Gk p1 0) (Zc Qi rfl (PT.ptr q1)) rfl ?_));have aL := Zm (Ta).1 q1;refine Zw (Gk (Gk p1 0) 0) (Zc Kk rfl (PT.ptr aL)) rfl ?_;have jN := Zm (Qv).1 aL;refine Ze .plain rfl (Gf (g := g1) Try.isAgg76 Try.sizeOf76 rfl jN fun eF bL => ?_);refine Zw (.int .i64 ((((x0).PayTable).Rows).length : Int)) (Tu Try.underlying76 rfl bL) rfl ?_;refine Zn (.int .i64 (0)) rfl rfl ?_;refine Zb (Zd (Zr ?_));refine Wv h (fun (s : (List Int) × Int) e w => ∃ (g : Gh) (v2 : Value), Fr gI wI g w ∧ e 1 = p1 ∧ PT g.m w (x0 : Gu) p1 ∧ e 2 = v2 ∧ RV g.m w (s.1 : List Int) v2 ∧ OS 1002 g w 3 (s.1 : List Int) v2 ∧ e 3 = .slice none 0 0 ∧ RV g.m w ([] : List Int) (Value.slice none 0 0) ∧ e 12 = eF ∧ RV g.m w (((x0).PayTable).Rows : List (List Int)) eF ∧ e 13 = .int .i64 (((((x0).PayTable).Rows).length : Int)) ∧ e 14 = .int .i64 (s.2)) ⟨g1, (.slice none 0 0), hfr, rfl, q1, rfl, He, OS.nil, rfl, He, rfl, bL, rfl, rfl⟩ (fun X89 zK dL => ?_);rintro ⟨yE, l5⟩ uN sO ⟨kH, aG, hfr, zE, oB, bG, yD, zD, cG, zB, rF, nB, sF, lD⟩ h;refine Zf (Za (Zw (.bool ((decide (l5 < ((((x0).PayTable).Rows).length : Int))))) (Gj lD sF rfl) rfl ?_));refine Zb (Zd (Zf ?_));rcases Zt h with ⟨xF, h⟩ | ⟨xF, h⟩
  ·refine Tn xF rfl ?_
   refine Zu (Zd ?_);obtain ⟨vB, hx, h⟩ := Ga h;refine Gp (fun e w => ∃ (g : Gh) (v2 : Value), Fr gI wI g w ∧ e 1 = p1 ∧ PT g.m w (x0 : Gu) p1 ∧ e 2 = v2 ∧ RV g.m w (vB : List Int) v2 ∧ OS 1002 g w 3 (vB : List Int) v2 ∧ e 3 = .slice none 0 0 ∧ RV g.m w ([] : List Int) (Value.slice none 0 0) ∧ e 12 = eF ∧ RV g.m w (((x0).PayTable).Rows : List (List Int)) eF ∧ e 13 = .int .i64 (((((x0).PayTable).Rows).length : Int)) ∧ e 14 = .int .i64 (l5)) (fun Q' hQ => ?_) (fun nN vN hR => ?_)
   ·replace h := hx
    clear hx;refine Zr ?_;refine Zf (Za (Zo lD rfl ?_));obtain ⟨y130, eG, h⟩ := Ga h;refine Zw (Ty eF l5 1) (Zh (α := List Int) Try.underlying76 Try.sizeOf31 rF nB lD eG) rfl ?_;have eL := Tp nB eG;refine Ze .plain rfl (Gf (g := kH) Try.isAgg31 Try.sizeOf31 rfl eL fun yF gL => ?_);refine Zg (.int .i64 (l5)) rfl rfl ?_;refine Zg yF rfl rfl ?_;refine Zb (Zd ?_);obtain ⟨l9, cK, h⟩ := Ga h;have lH := Zm (Ta).1 oB;have iL := Zm (Hr).1 lH;refine Zs (x := .tmp 23) Try.isAgg31 Try.sizeOf31 iL fun mH nH dK => ?_;obtain ⟨n9, gG, h⟩ := Ga h;have jL := Tp nH gG;refine Zs (x := .tmp 26) Try.isAgg3 Try.sizeOf3 jL fun xN lL lK => ?_;obtain rfl := Zj.1 lL;refine Tx (g := kH) (n := 11) [(2, (fun v g w => v = .int .i64 (l9))), (10, (fun v g w => RV g.m w ([(w64 (l9 - n9))] : List Int) v ∧ OS 3029 g w 3 ([(w64 (l9 - n9))] : List Int) v ∧ Hj v))] [0, 1, 2, 3, 4, 5, 6, 7, 8, 9, 10] rfl Qq (by kernel_rfl) (⟨fun _ => Wf _, fun _ => Kj Ym (Kj Af (Wf _)), trivial⟩) ?_;refine Zz aG rfl rfl (Zk bG) ?_;refine Zz yF rfl rfl (Zk rfl) ?_;refine Ka (φ := fun v g w => v = .int .i64 (l9)) rfl rfl .plain (fun g w hd => Zp (g := g) (vs := [yF]) en78 (.cons rfl .nil) (wk78 (gL.ext hd.1) cK) fun g' w' v hs hr => ⟨g', hs, hr⟩) (fun yN hv => ?_);obtain ⟨_, _, _, rfl⟩ := hv;refine Zz (Gk p1 0) rfl rfl (Zc Qi zE (PT.ptr oB)) ?_;refine Zz (Gk (Gk p1 0) 1) rfl rfl (Zc Xp rfl (PT.ptr lH)) ?_;refine Tt (c := mH) rfl rfl .plain (fun _ _ h => h.ch) dK rfl ?_;refine Zz (.int .i64 (l5)) rfl rfl (Zk rfl) ?_;refine Zz (Ty mH l5 1) rfl rfl (Zh (α := Int) Try.underlying31 Try.sizeOf3 rfl nH rfl gG) ?_;refine Tt (c := .int .i64 (n9)) rfl rfl .plain (fun _ _ h => h.ch) lK rfl ?_;refine Zz (.int .i64 ((w64 (l9 - n9)))) rfl rfl (Gj rfl rfl rfl) ?_;refine Ka (φ := fun v g w => RV g.m w ([(w64 (l9 - n9))] : List Int) v ∧ OS 3029 g w 3 ([(w64 (l9 - n9))] : List Int) v ∧ Hj v) rfl rfl .plain (fun g w hd => Gl (g := g) 3029 (xs := ([(w64 (l9 - n9))] : List Int)) (vs := [.int .i64 ((w64 (l9 - n9)))]) Try.underlying31 Try.sizeOf3 Try.zeroValue3 rfl rfl (.cons rfl .nil) (RVs.cons (Zj.2 rfl) RVs.nil) rfl rfl fun g' w' v hs o r hxt hfl => ⟨g', hxt, r, o, hfl⟩) (fun oD hv => ?_);clear hv;refine Um fun mL zN hall => ?_;have hs := hall.1;have hfr := hfr.ext hs;have oB := oB.ext hs;have yD := yD.ext hs;have zD := zD.ext hs;have zB := zB.ext hs;have nB := nB.ext hs;have nL := (Qm (A := fun g w => RV g.m w ([(w64 (l9 - n9))] : List Int) oD ∧ OS 3029 g w 3 ([(w64 (l9 - n9))] : List Int) oD ∧ Hj oD) 10 rfl hall).1;have o165 := (Qm (A := fun g w => RV g.m w ([(w64 (l9 - n9))] : List Int) oD ∧ OS 3029 g w 3 ([(w64 (l9 - n9))] : List Int) oD ∧ Hj oD) 10 rfl hall).2.1;clear hs hall;obtain ⟨aH, mK, h⟩ := Ga h;refine Ze .plain rfl (Kg (g := mL) (i := 1002) Try.underlying31 Hi rfl rfl zD yD rfl nL mK fun oL aO oH hs o166 xL _ => ?_);have hfr := hfr.stp hs;have oB := oB.stp hs;have zB := zB.stp hs;have nB := nB.stp hs;refine Zg oH rfl rfl ?_;refine Zb (Ts ?_);obtain rfl := sinj h;exact hQ _ _ ⟨oL, (oH), hfr, zE, oB, rfl, xL, o166, cG, zB, rF, nB, sF, lD⟩
   ·clear hx
    obtain ⟨yL, pH, hfr, qH, sH, tH, uH, xH, yH, zH, jG, kG, lG, mG⟩ := hR;refine Za (Gg (.int .i64 ((w64 (l5 + (1 : Int))))) mG rfl rfl rfl ?_);refine Zn (.int .i64 ((w64 (l5 + (1 : Int))))) rfl rfl ?_;exact Zb (Zd (dL (vB, (w64 (l5 + (1 : Int)))) _ _ ⟨yL, (pH), hfr, qH, sH, tH, uH, xH, yH, zH, jG, kG, lG, rfl⟩ h))
  ·refine To xF rfl ?_
   refine Qc ?_;refine Tf ?_;refine Tf ?_;refine Tl ?_;obtain rfl := sinj h;exact hQ _ _ ⟨kH, (aG), hfr, zE, oB, bG, yD, zD, cG, zB⟩
 ·clear hx
  obtain ⟨aI, i6, hfr, tF, iE, bI, dI, iI, jI, kI⟩ := hR;obtain ⟨cD, hx, h⟩ := Ga h;refine Gp (fun e w => ∃ (g : Gh) (v3 : Value), Fr gI wI g w ∧ e 1 = p1 ∧ PT g.m w (x0 : Gu) p1 ∧ e 2 = i6 ∧ RV g.m w (l8 : List Int) i6 ∧ OS 1002 g w 3 (l8 : List Int) i6 ∧ e 3 = v3 ∧ RV g.m w (cD : List Int) v3 ∧ OS 1003 g w 3 (cD : List Int) v3) (fun Q' hQ => ?_) (fun oN bO hR => ?_)
  ·replace h := hx
   clear hx;refine Zf (Za (Zw (Gk p1 0) (Zc Qi tF (PT.ptr iE)) rfl ?_));have lI := Zm (Ta).1 iE;refine Zw (Gk (Gk p1 0) 2) (Zc Xt rfl (PT.ptr lI)) rfl ?_;have zL := Zm (Ks).1 lI;refine Ze .plain rfl (Gf (g := aI) Try.isAgg31 Try.sizeOf31 rfl zL fun lE mI => ?_);refine Zw (.int .i64 ((((x0).PayTable).Down).length : Int)) (Tu Try.underlying31 rfl mI) rfl ?_;refine Zn (.int .i64 (0)) rfl rfl ?_;refine Zb (Zd (Zr ?_));refine Wv h (fun (s : (List Int) × Int) e w => ∃ (g : Gh) (v3 : Value), Fr gI wI g w ∧ e 1 = p1 ∧ PT g.m w (x0 : Gu) p1 ∧ e 2 = i6 ∧ RV g.m w (l8 : List Int) i6 ∧ OS 1002 g w 3 (l8 : List Int) i6 ∧ e 3 = v3 ∧ RV g.m w (s.1 : List Int) v3 ∧ OS 1003 g w 3 (s.1 : List Int) v3 ∧ e 34 = lE ∧ RV g.m w (((x0).PayTable).Down : List Int) lE ∧ e 35 = .int .i64 (((((x0).PayTable).Down).length : Int)) ∧ e 36 = .int .i64 (s.2)) ⟨aI, (.slice none 0 0), hfr, tF, iE, bI, dI, iI, jI, kI, OS.nil, rfl, mI, rfl, rfl⟩ (fun X202 cH nK => ?_);rintro ⟨aE, o0⟩ pN cO ⟨cF, nI, hfr, mE, g8, uF, n8, v8, vF, aB, lB, vE, t5, xE, cC⟩ h;refine Zf (Za (Zw (.bool ((decide (o0 < ((((x0).PayTable).Down).length : Int))))) (Gj cC xE rfl) rfl ?_));refine Zb (Zd (Zf ?_));rcases Zt h with ⟨dF, h⟩ | ⟨dF, h⟩
   ·refine Tn dF rfl ?_
    refine Zu (Zd ?_);obtain ⟨yB, hx, h⟩ := Ga h;refine Gp (fun e w => ∃ (g : Gh) (v3 : Value), Fr gI wI g w ∧ e 1 = p1 ∧ PT g.m w (x0 : Gu) p1 ∧ e 2 = i6 ∧ RV g.m w (l8 : List Int) i6 ∧ OS 1002 g w 3 (l8 : List Int) i6 ∧ e 3 = v3 ∧ RV g.m w (yB : List Int) v3 ∧ OS 1003 g w 3 (yB : List Int) v3 ∧ e 34 = lE ∧ RV g.m w (((x0).PayTable).Down : List Int) lE ∧ e 35 = .int .i64 (((((x0).PayTable).Down).length : Int)) ∧ e 36 = .int .i64 (o0)) (fun Q' hQ => ?_) (fun qN dO hR => ?_)
    ·replace h := hx
     clear hx;refine Zr ?_;refine Zf (Za (Zo cC rfl ?_));obtain ⟨uC, iG, h⟩ := Ga h;refine Zw (Ty lE o0 1) (Zh (α := Int) Try.underlying31 Try.sizeOf3 vE t5 cC iG) rfl ?_;have aM := Tp t5 iG;refine Ze .plain rfl (Gf (g := cF) Try.isAgg3 Try.sizeOf3 rfl aM fun eO bM => ?_);obtain rfl := Zj.1 bM;refine Zg (.int .i64 (o0)) rfl rfl ?_;refine Zg (.int .i64 (uC)) rfl rfl ?_;refine Zb (Zd (Za (Zo vF rfl ?_)));refine Ze .plain rfl (Gf (g := cF) Try.isAgg119 Try.sizeOf119 mE g8 fun cM dM => ?_);refine Zn (.int .i64 (o0)) rfl rfl ?_;obtain ⟨gH, oK, h⟩ := Ga h;refine Ze .plain rfl (Zp (g := cF) (vs := [cM, .int .i64 (o0)]) en79 (.cons rfl (.cons rfl .nil)) (wk79 dM oK) fun eM rN iM hs hr => ?_);have hfr := hfr.ext hs;have g8 := g8.ext hs;have n8 := n8.ext hs;have v8 := v8.ext hs;have aB := aB.ext hs;have lB := lB.ext hs;have t5 := t5.ext hs;have jM := hr;obtain ⟨bE, pK, h⟩ := Ga h;refine Ze .plain rfl (Zp (g := eM) (vs := [iM]) en78 (.cons rfl .nil) (wk78 jM pK) fun kM sN gO hs hr => ?_);have hfr := hfr.ext hs;have g8 := g8.ext hs;have n8 := n8.ext hs;have v8 := v8.ext hs;have aB := aB.ext hs;have lB := lB.ext hs;have t5 := t5.ext hs;subst hr;refine Zn (.int .i64 (uC)) rfl rfl ?_;refine Gg (.int .i64 ((w64 (bE - uC)))) rfl rfl rfl rfl ?_;refine Ze .plain rfl (Gl (g := kM) 3048 (xs := ([(w64 (bE - uC))] : List Int)) (vs := [.int .i64 ((w64 (bE - uC)))]) Try.underlying31 Try.sizeOf3 Try.zeroValue3 rfl rfl (.cons rfl .nil) (RVs.cons (Zj.2 rfl) RVs.nil) rfl rfl fun pM jO kO hs o224 qM hxt hfl => ?_);have hfr := hfr.stp hs;have g8 := g8.stp hs;have n8 := n8.stp hs;have v8 := v8.stp hs rfl;have aB := aB.stp hs;have lB := lB.stp hs rfl;have t5 := t5.stp hs;obtain ⟨jH, qK, h⟩ := Ga h;refine Ze .plain rfl (Kg (g := pM) (i := 1003) Try.underlying31 Hi rfl rfl lB aB rfl qM qK fun rM lO pI hs o225 sM _ => ?_);have hfr := hfr.stp hs;have g8 := g8.stp hs;have n8 := n8.stp hs;have v8 := v8.stp hs rfl;have t5 := t5.stp hs;refine Zg pI rfl rfl ?_;refine Zb (Ts ?_);obtain rfl := sinj h;exact hQ _ _ ⟨rM, (pI), hfr, mE, g8, uF, n8, v8, rfl, sM, o225, vE, t5, xE, cC⟩
    ·clear hx
     obtain ⟨tM, qI, hfr, sI, jJ, kJ, lJ, mJ, nJ, oJ, pJ, sG, xG, yG, zG⟩ := hR;refine Za (Gg (.int .i64 ((w64 (o0 + (1 : Int))))) zG rfl rfl rfl ?_);refine Zn (.int .i64 ((w64 (o0 + (1 : Int))))) rfl rfl ?_;exact Zb (Zd (nK (yB, (w64 (o0 + (1 : Int)))) _ _ ⟨tM, (qI), hfr, sI, jJ, kJ, lJ, mJ, nJ, oJ, pJ, sG, xG, yG, rfl⟩ h))
   ·refine To dF rfl ?_
    refine Qc ?_;refine Tf ?_;refine Tf ?_;refine Tl ?_;obtain rfl := sinj h;exact hQ _ _ ⟨cF, (nI), hfr, mE, g8, uF, n8, v8, vF, aB, lB⟩
  ·clear hx
   obtain ⟨uM, oE, hfr, nD, mB, qJ, rE, kN, rJ, uE, lN⟩ := hR;refine Zf ?_;have sJ := Zm (Ta).1 mB;have vM := Zm (Hr).1 sJ;refine Zs (x := .tmp 54) Try.isAgg31 Try.sizeOf31 vM fun vJ xM sK => ?_;obtain ⟨vC, tK, h⟩ := Ga h;have xJ := Zm (Ta).1 mB;have bN := Zm (Jj).1 xJ;refine Zs (x := .tmp 58) Try.isAgg3 Try.sizeOf3 bN fun mO cN uK => ?_;obtain rfl := Zj.1 cN;have zJ := Zm (Ta).1 mB;have dN := Zm (Ks).1 zJ;refine Zs (x := .tmp 62) Try.isAgg31 Try.sizeOf31 dN fun aK eN vK => ?_;obtain ⟨bD, xK, h⟩ := Ga h;have bK := Zm (Ta).1 mB;have gN := Zm (Jj).1 bK;refine Zs (x := .tmp 66) Try.isAgg3 Try.sizeOf3 gN fun nO iN yK => ?_;obtain rfl := Zj.1 iN;refine Tx (g := uM) (n := 22) [(5, (fun v g w => v = .int .i64 (vC))), (13, (fun v g w => v = .int .i64 (bD)))] [0, 1, 2, 3, 4, 5, 6, 7, 8, 9, 10, 11, 12, 13, 14, 15, 16, 17, 18, 19, 20, 21] rfl Qq (by kernel_rfl) (⟨fun _ => Wf _, fun _ => Wf _, trivial⟩) ?_;refine Zz i6 rfl rfl (Zk qJ) ?_;refine Zz oE rfl rfl (Zk rJ) ?_;refine Zz (Gk p1 0) rfl rfl (Zc Qi nD (PT.ptr mB)) ?_;refine Zz (Gk (Gk p1 0) 1) rfl rfl (Zc Xp rfl (PT.ptr sJ)) ?_;refine Tt (c := vJ) rfl rfl .plain (fun _ _ h => h.ch) sK rfl ?_;refine Ka (φ := fun v g w => v = .int .i64 (vC)) rfl rfl .plain (fun g w hd => Zp (g := g) (vs := [vJ]) en78 (.cons rfl .nil) (wk78 (xM.ext hd.1) tK) fun g' w' v hs hr => ⟨g', hs, hr⟩) (fun oO hv => ?_);obtain ⟨_, _, _, rfl⟩ := hv;refine Zz (Gk p1 0) rfl rfl (Zc Qi nD (PT.ptr mB)) ?_;refine Zz (Gk (Gk p1 0) 3) rfl rfl (Zc Rf rfl (PT.ptr xJ)) ?_;refine Tt (c := .int .i64 (((x0).PayTable).Total)) rfl rfl .plain (fun _ _ h => h.ch) uK rfl ?_;refine Zz (.int .i64 ((w64 (vC - ((x0).PayTable).Total)))) rfl rfl (Gj rfl rfl rfl) ?_;refine Zz (Gk p1 0) rfl rfl (Zc Qi nD (PT.ptr mB)) ?_;refine Zz (Gk (Gk p1 0) 2) rfl rfl (Zc Xt rfl (PT.ptr zJ)) ?_;refine Tt (c := aK) rfl rfl .plain (fun _ _ h => h.ch) vK rfl ?_;refine Ka (φ := fun v g w => v = .int .i64 (bD)) rfl rfl .plain (fun g w hd => Zp (g := g) (vs := [aK]) en78 (.cons rfl .nil) (wk78 (eN.ext hd.1) xK) fun g' w' v hs hr => ⟨g', hs, hr⟩) (fun pO hv => ?_);obtain ⟨_, _, _, rfl⟩ := hv;refine Zz (Gk p1 0) rfl rfl (Zc Qi nD (PT.ptr mB)) ?_;refine Zz (Gk (Gk p1 0) 3) rfl rfl (Zc Rf rfl (PT.ptr bK)) ?_;refine Tt (c := .int .i64 (((x0).PayTable).Total)) rfl rfl .plain (fun _ _ h => h.ch) yK rfl ?_;refine Zz (.int .i64 ((w64 (bD - ((x0).PayTable).Total)))) rfl rfl (Gj rfl rfl rfl) ?_;refine Zz i6 rfl rfl (Tb rfl) ?_;refine Zz oE rfl rfl (Tb rfl) ?_;refine Zz (.int .i64 ((w64 (vC - ((x0).PayTable).Total)))) rfl rfl (Tb rfl) ?_;refine Zz (.int .i64 ((w64 (bD - ((x0).PayTable).Total)))) rfl rfl (Tb rfl) ?_;refine Kr fun qO rO hs => ?_;have hfr := hfr.ext hs;have rE := rE.ext hs;have uE := uE.ext hs;clear hs;refine Zb (Zd (Gq ?_));obtain rfl := sinj h;exact Nq rfl rfl (show _ = i6 from rfl) (show _ = oE from rfl) (show _ = .int .i64 ((w64 (vC - ((x0).PayTable).Total))) from rfl) (show _ = .int .i64 ((w64 (bD - ((x0).PayTable).Total))) from rfl) ⟨_, hfr, _, _, _, _, rfl, rE, uE, rfl, rfl⟩
def f62 (x0 : List Gc) (x1 : Gc → Option Bool) : Option (Bool) :=
 (f80 x0 x1).bind fun y2 =>
 some ((decide (y2 ≥ (0 : Int))))
theorem en62 : Enters Try.prog 62 := enters_of Try.func62 (by kernel_rfl) rfl
theorem wk62 {gI : Gh} {wI : World} {x0 : List Gc} {x1 : Gc → Option Bool} {up0 : Value} (rp0 : RV gI.m wI x0 up0) {up1 : Value} (rp1 : Sq Try.prog x1 up1 gI wI) {r : Bool} (h : f62 x0 x1 = some r) : Fn Try.prog 62 #[up0, up1] gI wI (fun _ _ v => v = .bool (r)) := by
 unfold f62 at h;refine Gw Try.func62 rfl (Nat.le_of_ble_eq_true rfl) fun g0 hm hfr => ?_;have rp0 : RV g0.m wI x0 up0 := hm ▸ rp0;obtain ⟨ff1, fa1, fc1, rfl, fen1, fcl1⟩ := rp1;show E _ 9 none _ _ _ _ _;refine Zf (Za (Zg (.bool false) rfl rfl ?_));refine Zb (Zd (Zf (Za (Zn up0 rfl rfl ?_))));refine Zn ((.func (.func ff1) fa1 fc1)) rfl rfl ?_;obtain ⟨y2, hy2, h⟩ := Ga h;refine Ze .plain rfl (Zp (g := g0) (vs := [up0, (.func (.func ff1) fa1 fc1)]) en80 (.cons rfl (.cons rfl .nil)) (wk80 rp0 (Sq.ch ⟨_, _, _, rfl, fen1, fcl1⟩ hfr.ch) hy2) fun g1 w1_ v1 hs hr => ?_);have hfr := hfr.ext hs;subst hr;refine Gg (.bool ((decide (y2 ≥ (0 : Int))))) rfl rfl rfl rfl ?_;refine Zg (.bool ((decide (y2 ≥ (0 : Int))))) rfl rfl ?_;refine Zb (Zd (Gq ?_));obtain rfl := sinj h;exact Qr rfl rfl (show _ = .bool ((decide (y2 ≥ (0 : Int)))) from rfl) ⟨_, hfr, rfl⟩
def f64 (x0 : U64) : Option (U64) :=
 (Hz ((x0).n) ((1 : Int))).bind fun y1 =>
 (Ac (Qa .and ((x0).n) ((6148914691236517205 : Int))) ((1 : Int))).bind fun y2 =>
 (Hz (Qa .or (Qa .and y1 ((6148914691236517205 : Int))) y2) ((2 : Int))).bind fun y3 =>
 (Ac (Qa .and (Qa .or (Qa .and y1 ((6148914691236517205 : Int))) y2) ((3689348814741910323 : Int))) ((2 : Int))).bind fun y4 =>
 (Hz (Qa .or (Qa .and y3 ((3689348814741910323 : Int))) y4) ((4 : Int))).bind fun y5 =>
 (Ac (Qa .and (Qa .or (Qa .and y3 ((3689348814741910323 : Int))) y4) ((1085102592571150095 : Int))) ((4 : Int))).bind fun y6 =>
 (f81 ((⟨Qa .or (Qa .and y5 ((1085102592571150095 : Int))) y6⟩ : U64))).bind fun y8 =>
 some (y8)
theorem en64 : Enters Try.prog 64 := enters_of Try.func64 (by kernel_rfl) rfl
theorem wk64 {gI : Gh} {wI : World} {x0 : U64}  {r : U64} (h : f64 x0 = some r) : Fn Try.prog 64 #[.int .u64 ((x0).n)] gI wI (fun _ _ v => v = .int .u64 ((r).n)) := by
 unfold f64 at h;refine Gw Try.func64 rfl (Nat.le_of_ble_eq_true rfl) fun g0 hm hfr => ?_;show E _ 26 none _ _ _ _ _;refine Zf (Za (Zg (.int .u64 (0)) rfl rfl ?_));refine Zb (Zd (Zf (Za (Zn (.int .u64 ((x0).n)) rfl rfl ?_))));obtain ⟨y1, hy1, h⟩ := Ga h;refine Zw (.int .u64 (y1)) (Hw rfl rfl hy1) rfl ?_;refine Zw (.int .u64 (Qa .and y1 ((6148914691236517205 : Int)))) (Hk (by simp) rfl rfl) rfl ?_;refine Zn (.int .u64 ((x0).n)) rfl rfl ?_;refine Zw (.int .u64 (Qa .and ((x0).n) ((6148914691236517205 : Int)))) (Hk (by simp) rfl rfl) rfl ?_;obtain ⟨y2, hy2, h⟩ := Ga h;refine Zw (.int .u64 (y2)) (Sc rfl rfl hy2) rfl ?_;refine Zw (.int .u64 (Qa .or (Qa .and y1 ((6148914691236517205 : Int))) y2)) (Hk (by simp) rfl rfl) rfl ?_;refine Zg (.int .u64 (Qa .or (Qa .and y1 ((6148914691236517205 : Int))) y2)) rfl rfl ?_;refine Zb (Zd (Zf (Za (Zn (.int .u64 (Qa .or (Qa .and y1 ((6148914691236517205 : Int))) y2)) rfl rfl ?_))));obtain ⟨y3, hy3, h⟩ := Ga h;refine Zw (.int .u64 (y3)) (Hw rfl rfl hy3) rfl ?_;refine Zw (.int .u64 (Qa .and y3 ((3689348814741910323 : Int)))) (Hk (by simp) rfl rfl) rfl ?_;refine Zn (.int .u64 (Qa .or (Qa .and y1 ((6148914691236517205 : Int))) y2)) rfl rfl ?_;refine Zw (.int .u64 (Qa .and (Qa .or (Qa .and y1 ((6148914691236517205 : Int))) y2) ((3689348814741910323 : Int)))) (Hk (by simp) rfl rfl) rfl ?_;obtain ⟨y4, o0, h⟩ := Ga h;refine Zw (.int .u64 (y4)) (Sc rfl rfl o0) rfl ?_;refine Zw (.int .u64 (Qa .or (Qa .and y3 ((3689348814741910323 : Int))) y4)) (Hk (by simp) rfl rfl) rfl ?_;refine Zg (.int .u64 (Qa .or (Qa .and y3 ((3689348814741910323 : Int))) y4)) rfl rfl ?_;refine Zb (Zd (Zf (Za (Zn (.int .u64 (Qa .or (Qa .and y3 ((3689348814741910323 : Int))) y4)) rfl rfl ?_))));obtain ⟨y5, hy5, h⟩ := Ga h;refine Zw (.int .u64 (y5)) (Hw rfl rfl hy5) rfl ?_;refine Zw (.int .u64 (Qa .and y5 ((1085102592571150095 : Int)))) (Hk (by simp) rfl rfl) rfl ?_;refine Zn (.int .u64 (Qa .or (Qa .and y3 ((3689348814741910323 : Int))) y4)) rfl rfl ?_;refine Zw (.int .u64 (Qa .and (Qa .or (Qa .and y3 ((3689348814741910323 : Int))) y4) ((1085102592571150095 : Int)))) (Hk (by simp) rfl rfl) rfl ?_;obtain ⟨y6, l5, h⟩ := Ga h;refine Zw (.int .u64 (y6)) (Sc rfl rfl l5) rfl ?_;refine Zw (.int .u64 (Qa .or (Qa .and y5 ((1085102592571150095 : Int))) y6)) (Hk (by simp) rfl rfl) rfl ?_;refine Zg (.int .u64 (Qa .or (Qa .and y5 ((1085102592571150095 : Int))) y6)) rfl rfl ?_;refine Zb (Zd (Zf (Za (Zn (.int .u64 (Qa .or (Qa .and y5 ((1085102592571150095 : Int))) y6)) rfl rfl ?_))));obtain ⟨y8, t5, h⟩ := Ga h;refine Ze .plain rfl (Zp (g := g0) (vs := [.int .u64 (Qa .or (Qa .and y5 ((1085102592571150095 : Int))) y6)]) en81 (.cons rfl .nil) (wk81  t5) fun g7 w7_ v7 hs hr => ?_);have hfr := hfr.ext hs;subst hr;refine Zg (.int .u64 ((y8).n)) rfl rfl ?_;refine Zb (Zd (Gq ?_));obtain rfl := sinj h;exact Qr rfl rfl (show _ = .int .u64 ((y8).n) from rfl) ⟨_, hfr, rfl⟩
def f66 (x0 : U64) (x1 : U64) : Option (U64 × U64) :=
 (f83 x0 x1).bind fun y2 =>
 some (y2.1, y2.2)
theorem en66 : Enters Try.prog 66 := enters_of Try.func66 (by kernel_rfl) rfl
theorem wk66 {gI : Gh} {wI : World} {x0 : U64} {x1 : U64}  {r : U64 × U64} (h : f66 x0 x1 = some r) : Fn Try.prog 66 #[.int .u64 ((x0).n), .int .u64 ((x1).n)] gI wI (fun m w v => ∃ y0 y1, v = .tuple #[y0, y1] ∧ y0 = .int .u64 ((r.1).n) ∧ y1 = .int .u64 ((r.2).n)) := by
 unfold f66 at h;refine Gw Try.func66 rfl (Nat.le_of_ble_eq_true rfl) fun g0 hm hfr => ?_;show E _ 30 none _ _ _ _ _;refine Zf (Za (Zg (.int .u64 (0)) rfl rfl ?_));refine Zg (.int .u64 (0)) rfl rfl ?_;refine Zb (Zd (Zf (Tj (by rw [show ev _ _ = _ from rfl]; exact congrArg Value.bool rfl) ?_)));refine Zu (Zd (Zf (Za (Zn (.int .u64 ((x0).n)) rfl rfl ?_))));refine Zn (.int .u64 ((x1).n)) rfl rfl ?_;obtain ⟨y2, hy2, h⟩ := Ga h;refine Ze .plain rfl (Zp (g := g0) (vs := [.int .u64 ((x0).n), .int .u64 ((x1).n)]) en83 (.cons rfl (.cons rfl .nil)) (wk83  hy2) fun g1 w1_ v1 hs hr => ?_);have hfr := hfr.ext hs;obtain ⟨o0, l5, rfl, rfl, rfl⟩ := hr;refine Zn (.tuple #[.int .u64 ((y2.1).n), .int .u64 ((y2.2).n)]) rfl rfl ?_;refine Zw (.int .u64 ((y2.1).n)) (Zi rfl rfl) rfl ?_;refine Zw (.int .u64 ((y2.2).n)) (Zi rfl rfl) rfl ?_;refine Zg (.int .u64 ((y2.1).n)) rfl rfl ?_;refine Zg (.int .u64 ((y2.2).n)) rfl rfl ?_;refine Zb (Zd (Zf (Za (Zn (.int .u64 ((y2.1).n)) rfl rfl ?_))));refine Zn (.int .u64 ((y2.2).n)) rfl rfl ?_;refine Zg (.int .u64 ((y2.1).n)) rfl rfl ?_;refine Zg (.int .u64 ((y2.2).n)) rfl rfl ?_;refine Zb (Zd (Gq ?_));obtain rfl := sinj h;exact Bc rfl rfl (show _ = .int .u64 ((y2.1).n) from rfl) (show _ = .int .u64 ((y2.2).n) from rfl) ⟨_, hfr, _, _, rfl, rfl, rfl⟩
def f71 (x0 : Gr) (x1 : Int) : Option (Int) :=
 (f56 ((x0).From) x1).bind fun y5 =>
 some (y5)
theorem en71 : Enters Try.prog 71 := enters_of Try.func71 (by kernel_rfl) rfl
theorem wk71 {gI : Gh} {wI : World} {x0 : Gr} {x1 : Int} {up0 : Value} (rp0 : RV gI.m wI x0 up0) {r : Int} (h : f71 x0 x1 = some r) : Fn Try.prog 71 #[up0, .int .i64 (x1)] gI wI (fun _ _ v => v = .int .i64 (r)) := by
 unfold f71 at h;refine Gw Try.func71 rfl (Nat.le_of_ble_eq_true rfl) fun g0 hm hfr => ?_;have rp0 : RV g0.m wI x0 up0 := hm ▸ rp0;show E _ 9 none _ _ _ _ _;refine Zf (Za (Ze .plain rfl (Qs (g := g0) rfl rp0 fun g1 w1 p1 hs q1 => ?_)));have hfr := hfr.ext hs;refine Zg (.int .i64 (0)) rfl rfl ?_;refine Zb (Zd (Zf (Za (Zw (Gk p1 0) (Zc Lc rfl (PT.ptr q1)) rfl ?_))));have q2 := Zm (Yy).1 q1;refine Ze .plain rfl (Gf (g := g1) Try.isAgg3 Try.sizeOf3 rfl q2 fun v3 r3 => ?_);obtain rfl := Zj.1 r3;refine Zn (.int .i64 (x1)) rfl rfl ?_;obtain ⟨y5, hy5, h⟩ := Ga h;refine Ze .plain rfl (Zp (g := g1) (vs := [.int .i64 ((x0).From), .int .i64 (x1)]) en56 (.cons rfl (.cons rfl .nil)) (wk56  hy5) fun g4 w4_ v4 hs hr => ?_);have hfr := hfr.ext hs;subst hr;refine Zg (.int .i64 (y5)) rfl rfl ?_;refine Zb (Zd (Gq ?_));obtain rfl := sinj h;exact Qr rfl rfl (show _ = .int .i64 (y5) from rfl) ⟨_, hfr, rfl⟩
def f84 (x0 : List Int) : Option (Bool) :=
 jn (σ := Unit) (fun _ =>
  some (true)
  ) fun k53 =>
 lp (σ := Int) (fun k54 o0 =>
  jn (σ := Unit) (fun _ =>
   jn (σ := Unit) (fun _ =>
    k54 ((w64 (o0 - (1 : Int))))
    ) fun yB =>
   (idx x0 o0).bind fun y84 =>
   (idx x0 (w64 (o0 - (1 : Int)))).bind fun n8 =>
   (f95 y84 n8).bind fun v8 =>
   bif v8 then
    some (false)
   else
    yB ()
   ) fun k57 =>
  bif (decide (o0 > (0 : Int))) then
   k57 ()
  else
   k53 ()
  ) big ((w64 (((x0).length : Int) - (1 : Int))))
theorem en84 : Enters Try.prog 84 := enters_of Try.func84 (by kernel_rfl) rfl
theorem wk84 {gI : Gh} {wI : World} {x0 : List Int} {up0 : Value} (rp0 : RV gI.m wI x0 up0) {r : Bool} (h : f84 x0 = some r) : Fn Try.prog 84 #[up0] gI wI (fun _ _ v => v = .bool (r)) := by
 unfold f84 at h;refine Gw Try.func84 rfl (Nat.le_of_ble_eq_true rfl) fun g0 hm hfr => ?_;have rp0 : RV g0.m wI x0 up0 := hm ▸ rp0;show E _ 21 none _ _ _ _ _;refine Zf (Za (Zg (.bool false) rfl rfl ?_));refine Zb (Zd (Zq h (fun (s : Unit) e w => ∃ (g : Gh) , Fr gI wI g w) (fun X53 k53 cC h => ?_) ?_))
 ·refine Zf (Za (Zn up0 rfl rfl ?_))
  refine Zw (.int .i64 ((x0).length : Int)) (Tu Try.underlying31 rfl rp0) rfl ?_;refine Gg (.int .i64 ((w64 (((x0).length : Int) - (1 : Int))))) rfl rfl rfl rfl ?_;refine Zg (.int .i64 ((w64 (((x0).length : Int) - (1 : Int))))) rfl rfl ?_;refine Zb (Zd (Zr ?_));refine Wv h (fun (s : Int) e w => ∃ (g : Gh) , Fr gI wI g w ∧ e 0 = up0 ∧ RV g.m w (x0 : List Int) up0 ∧ e 3 = .int .i64 (s)) ⟨g0, hfr, rfl, rp0, rfl⟩ (fun X54 k54 uC => ?_);rintro o0 rE zE ⟨zB, hfr, oB, vB, l9⟩ h;refine Zq h (fun (s : Unit) e w => ∃ (g : Gh) , Fr gI wI g w ∧ e 0 = up0 ∧ RV g.m w (x0 : List Int) up0 ∧ e 3 = .int .i64 (o0)) (fun X57 k57 vC h => ?_) ?_
  ·refine Zf (Za (Zo l9 rfl ?_))
   refine Gg (.bool ((decide (o0 > (0 : Int))))) rfl rfl rfl rfl ?_;refine Zb (Zd ?_);rcases Zt h with ⟨l8, h⟩ | ⟨l8, h⟩
   ·refine Tn l8 rfl ?_
    exact Zu (Zd (vC () _ _ ⟨zB, hfr, oB, vB, l9⟩ h))
   ·refine To l8 rfl ?_
    refine Qc ?_;refine Tf ?_;refine Tf ?_;refine Tl ?_;exact Zd (cC () _ _ ⟨zB, hfr⟩ h)
  ·rintro _ uE cF ⟨yD, hfr, t5, l5, i6⟩ h
   refine Zq h (fun (s : Unit) e w => ∃ (g : Gh) , Fr gI wI g w ∧ e 0 = up0 ∧ RV g.m w (x0 : List Int) up0 ∧ e 3 = .int .i64 (o0)) (fun X83 yB bD h => ?_) ?_
   ·refine Zr ?_
    refine Zf ?_;obtain ⟨y84, n9, h⟩ := Ga h;have zD := Tp l5 n9;refine Zs (x := .tmp 13) Try.isAgg3 Try.sizeOf3 zD fun dF aE cD => ?_;obtain rfl := Zj.1 aE;obtain ⟨n8, aB, h⟩ := Ga h;have bE := Tp l5 aB;refine Zs (x := .tmp 18) Try.isAgg3 Try.sizeOf3 bE fun eF iE lD => ?_;obtain rfl := Zj.1 iE;obtain ⟨v8, nD, h⟩ := Ga h;refine Tx (g := yD) (n := 10) [(9, (fun v g w => v = .bool (v8)))] [0, 1, 2, 3, 4, 5, 6, 7, 8, 9] rfl Qq (by kernel_rfl) (⟨fun _ => Wf _, trivial⟩) ?_;refine Zz up0 rfl rfl (Zk t5) ?_;refine Zz (.int .i64 (o0)) rfl rfl (Zk i6) ?_;refine Zz (Ty up0 o0 1) rfl rfl (Zh (α := Int) Try.underlying31 Try.sizeOf3 rfl l5 rfl n9) ?_;refine Tt (c := .int .i64 (y84)) rfl rfl .plain (fun _ _ h => h.ch) cD rfl ?_;refine Zz up0 rfl rfl (Zk t5) ?_;refine Zz (.int .i64 (o0)) rfl rfl (Zk i6) ?_;refine Zz (.int .i64 ((w64 (o0 - (1 : Int))))) rfl rfl (Gj rfl rfl rfl) ?_;refine Zz (Ty up0 (w64 (o0 - (1 : Int))) 1) rfl rfl (Zh (α := Int) Try.underlying31 Try.sizeOf3 rfl l5 rfl aB) ?_;refine Tt (c := .int .i64 (n8)) rfl rfl .plain (fun _ _ h => h.ch) lD rfl ?_;refine Ka (φ := fun v g w => v = .bool (v8)) rfl rfl .plain (fun g w hd => Zp (g := g) (vs := [.int .i64 (y84), .int .i64 (n8)]) en95 (.cons rfl (.cons rfl .nil)) (wk95  nD) fun g' w' v hs hr => ⟨g', hs, hr⟩) (fun rF hv => ?_);obtain ⟨_, _, _, rfl⟩ := hv;refine Kr fun lE sF hs => ?_;have hfr := hfr.ext hs;have l5 := l5.ext hs;clear hs;refine Zb (Zd ?_);rcases Zt h with ⟨g8, h⟩ | ⟨g8, h⟩
    ·refine Tn g8 rfl ?_
     refine Zf (Za (Zg (.bool false) rfl rfl ?_));refine Zb (Zd (Gq (Wd ?_)));refine Tz ?_;refine Tz ?_;refine Wd ?_;refine Tz ?_;obtain rfl := sinj h;exact Qr rfl rfl (show _ = .bool false from rfl) ⟨_, hfr, rfl⟩
    ·refine To g8 rfl ?_
     exact Zu (Ts (Zd (bD () _ _ ⟨lE, hfr, t5, l5, i6⟩ h)))
   ·rintro _ mE vE ⟨oD, hfr, lB, mB, nB⟩ h
    refine Za (Zo nB rfl ?_);refine Gg (.int .i64 ((w64 (o0 - (1 : Int))))) rfl rfl rfl rfl ?_;refine Zg (.int .i64 ((w64 (o0 - (1 : Int))))) rfl rfl ?_;exact Zb (Zd (uC ((w64 (o0 - (1 : Int)))) _ _ ⟨oD, hfr, lB, mB, rfl⟩ h))
 ·rintro _ oE xE ⟨yE, hfr⟩ h
  refine Zf (Za (Zg (.bool true) rfl rfl ?_));refine Zb (Zd (Gq ?_));obtain rfl := sinj h;exact Qr rfl rfl (show _ = .bool true from rfl) ⟨_, hfr, rfl⟩
def f87 (x0 : Gb) (x1 : Int) : Option (It Int) :=
 some ((fun σ cons s => f96 x0 x1 σ cons s))
theorem en87 : Enters Try.prog 87 := enters_of Try.func87 (by kernel_rfl) rfl
theorem wk87 {gI : Gh} {wI : World} {x0 : Gb} {x1 : Int} {up0 : Value} (rp0 : RV gI.m wI x0 up0) {r : It Int} (h : f87 x0 x1 = some r) : Fn Try.prog 87 #[up0, .int .i64 (x1)] gI wI (fun m w v => ItV Try.prog (RA1 (α := Int)) (r) v m w) := by
 unfold f87 at h;refine Gw Try.func87 rfl (Nat.le_of_ble_eq_true rfl) fun g0 hm hfr => ?_;have rp0 : RV g0.m wI x0 up0 := hm ▸ rp0;show E _ 6 none _ _ _ _ _;refine Zf (Za (Ze .plain rfl (Qs (g := g0) rfl rp0 fun g1 w1 p1 hs q1 => ?_)));have hfr := hfr.ext hs;refine Ze .plain rfl (Qs (g := g1) rfl (Zj.2 rfl) fun g2 w2 p2 hs q2 => ?_);have hfr := hfr.ext hs;have q1 := q1.ext hs;refine Zg (.nilFunc) rfl rfl ?_;refine Zb (Zd (Zf (Za (Zw ((.func (.func 96) #[] #[p1, p2])) (Hy (Rm (show ev _ _ = p1 from rfl) (show ev _ _ = p2 from rfl))) rfl ?_))));refine Zg ((.func (.func 96) #[] #[p1, p2])) rfl rfl ?_;refine Zb (Zd (Gq ?_));obtain rfl := sinj h;exact Qr rfl rfl (show _ = (.func (.func 96) #[] #[p1, p2]) from rfl) ⟨_, hfr, (show ItV Try.prog (RA1 (α := Int)) (fun σ cons s => f96 x0 x1 σ cons s) ((.func (.func 96) #[] #[p1, p2])) g2.m w2 from ⟨96, #[], #[p1, p2], rfl, en96, fun g' w' hch σ cons s s' h => wk96  (q1.ch hch) (q2.ch hch) h⟩)⟩
def f94 (x0 : List (List Int)) : Option ((List Int)) :=
 Option.bind (α := Int) (
  lp (σ := Int × Int) (fun bG (t5, o0) =>
   bif (decide (o0 < ((x0).length : Int))) then
    Option.bind (α := Int) (
     (idx x0 o0).bind fun l8 =>
     bif (decide ((w64 (t5 + ((l8).length : Int))) < (0 : Int))) then
      none
     else
      some ((w64 (t5 + ((l8).length : Int))))
     ) fun n8 =>
    bG (n8, (w64 (o0 + (1 : Int))))
   else
    some (t5)
   ) big ((0 : Int), (0 : Int))
  ) fun v8 =>
 (f101 v8).bind fun cG =>
 Option.bind (α := (List Int)) (
  lp (σ := (List Int) × Int) (fun eG (mB, l5) =>
   bif (decide (l5 < ((x0).length : Int))) then
    Option.bind (α := (List Int)) (
     (idx x0 l5).bind fun gG =>
     (apnd 8 mB gG).bind fun iG =>
     some (iG)
     ) fun g8 =>
    eG (g8, (w64 (l5 + (1 : Int))))
   else
    some (mB)
   ) big (cG, (0 : Int))
  ) fun l9 =>
 some (l9)
theorem en94 : Enters Try.prog 94 := enters_of Try.func94 (by kernel_rfl) rfl
theorem wk94 {gI : Gh} {wI : World} {x0 : List (List Int)} {up0 : Value} (rp0 : RV gI.m wI x0 up0) {r : (List Int)} (h : f94 x0 = some r) : Fn Try.prog 94 #[up0] gI wI (fun m w v => RV m w (r) v) := by
 unfold f94 at h;refine Gw Try.func94 rfl (Nat.le_of_ble_eq_true rfl) fun g0 hm hfr => ?_;have rp0 : RV g0.m wI x0 up0 := hm ▸ rp0;show E _ 36 none _ _ _ _ _;refine Zf (Za (Zg (.slice none 0 0) rfl rfl ?_));refine Zb (Zd (Zf (Za (Zg (.int .i64 (0)) rfl rfl ?_))));refine Zb (Zd ?_);obtain ⟨v8, hx, h⟩ := Ga h;refine Gp (fun e w => ∃ (g : Gh) , Fr gI wI g w ∧ e 0 = up0 ∧ RV g.m w (x0 : List (List Int)) up0 ∧ e 3 = .int .i64 (v8)) (fun Q' hQ => ?_) (fun tH bI hR => ?_)
 ·replace h := hx
  clear hx;refine Zf (Za (Zn up0 rfl rfl ?_));refine Zw (.int .i64 ((x0).length : Int)) (Tu Try.underlying76 rfl rp0) rfl ?_;refine Zn (.int .i64 (0)) rfl rfl ?_;refine Zb (Zd (Zr ?_));refine Wv h (fun (s : Int × Int) e w => ∃ (g : Gh) , Fr gI wI g w ∧ e 0 = up0 ∧ RV g.m w (x0 : List (List Int)) up0 ∧ e 3 = .int .i64 (s.1) ∧ e 9 = up0 ∧ RV g.m w (x0 : List (List Int)) up0 ∧ e 10 = .int .i64 (((x0).length : Int)) ∧ e 11 = .int .i64 (s.2)) ⟨g0, hfr, rfl, rp0, rfl, rfl, rp0, rfl, rfl⟩ (fun X13 bG sG => ?_);rintro ⟨t5, o0⟩ uH dI ⟨aE, hfr, vC, bD, cD, lD, nB, oB, aB⟩ h;refine Zf (Za (Gg (.bool ((decide (o0 < ((x0).length : Int))))) aB oB rfl rfl ?_));refine Zb (Zd (Zf ?_));rcases Zt h with ⟨zB, h⟩ | ⟨zB, h⟩
  ·refine Tn zB rfl ?_
   refine Zu (Zd ?_);obtain ⟨n8, hx, h⟩ := Ga h;refine Gp (fun e w => ∃ (g : Gh) , Fr gI wI g w ∧ e 0 = up0 ∧ RV g.m w (x0 : List (List Int)) up0 ∧ e 3 = .int .i64 (n8) ∧ e 9 = up0 ∧ RV g.m w (x0 : List (List Int)) up0 ∧ e 10 = .int .i64 (((x0).length : Int)) ∧ e 11 = .int .i64 (o0)) (fun Q' hQ => ?_) (fun xH iI hR => ?_)
   ·replace h := hx
    clear hx;refine Zr ?_;refine Zf (Za ?_);obtain ⟨l8, hy20, h⟩ := Ga h;refine Zw (Ty up0 o0 1) (Zh (α := List Int) Try.underlying76 Try.sizeOf31 lD nB aB hy20) rfl ?_;have aH := Tp nB hy20;refine Ze .plain rfl (Gf (g := aE) Try.isAgg31 Try.sizeOf31 rfl aH fun jG cH => ?_);refine Zg jG rfl rfl ?_;refine Zb (Zd (Zf (Za (Zo cD rfl ?_))));refine Zn jG rfl rfl ?_;refine Zw (.int .i64 ((l8).length : Int)) (Tu Try.underlying31 rfl cH) rfl ?_;refine Gg (.int .i64 ((w64 (t5 + ((l8).length : Int))))) rfl rfl rfl rfl ?_;refine Zg (.int .i64 ((w64 (t5 + ((l8).length : Int))))) rfl rfl ?_;refine Zb (Zd (Zf (Za (Zn (.int .i64 ((w64 (t5 + ((l8).length : Int))))) rfl rfl ?_))));refine Zw (.bool ((decide ((w64 (t5 + ((l8).length : Int))) < (0 : Int))))) (Gj rfl rfl rfl) rfl ?_;refine Zb (Zd ?_);rcases Zt h with ⟨cC, h⟩ | ⟨cC, h⟩
    ·refine Tn cC rfl ?_
     refine Za ?_
     cases h
    ·refine To cC rfl ?_
     refine Zu (Ts ?_);obtain rfl := sinj h;exact hQ _ _ ⟨aE, hfr, vC, bD, rfl, lD, nB, oB, aB⟩
   ·clear hx
    obtain ⟨gH, hfr, xE, yE, zE, cF, dF, bE, iE⟩ := hR;refine Za (Gg (.int .i64 ((w64 (o0 + (1 : Int))))) iE rfl rfl rfl ?_);refine Zn (.int .i64 ((w64 (o0 + (1 : Int))))) rfl rfl ?_;exact Zb (Zd (sG (n8, (w64 (o0 + (1 : Int)))) _ _ ⟨gH, hfr, xE, yE, zE, cF, dF, bE, rfl⟩ h))
  ·refine To zB rfl ?_
   refine Qc ?_;refine Tf ?_;refine Tf ?_;refine Tl ?_;obtain rfl := sinj h;exact hQ _ _ ⟨aE, hfr, vC, bD, cD⟩
 ·clear hx
  obtain ⟨jH, hfr, eF, n9, rF⟩ := hR;refine Zf (Za (Zo rF rfl ?_));obtain ⟨cG, xG, h⟩ := Ga h;refine Ze .plain rfl (Ra (g := jH) (vs := [.slice none 0 0, .int .i64 (v8)]) en101 (.cons rfl (.cons rfl .nil)) (wk101 (iO := 4024) xG) fun kH jI kG hs m26 => ?_);obtain ⟨o26, lH⟩ := m26;have hfr := hfr.ext hs;have n9 := n9.ext hs;refine Zg kG rfl rfl ?_;refine Zb (Zd ?_);obtain ⟨l9, hx, h⟩ := Ga h;refine Gp (fun e w => ∃ (g : Gh) (v6 : Value), Fr gI wI g w ∧ e 6 = v6 ∧ RV g.m w (l9 : List Int) v6 ∧ OS 4024 g w 3 (l9 : List Int) v6) (fun Q' hQ => ?_) (fun yH kI hR => ?_)
  ·replace h := hx
   clear hx;refine Zf (Za (Zo eF rfl ?_));refine Zw (.int .i64 ((x0).length : Int)) (Tu Try.underlying76 rfl n9) rfl ?_;refine Zn (.int .i64 (0)) rfl rfl ?_;refine Zb (Zd (Zr ?_));refine Wv h (fun (s : (List Int) × Int) e w => ∃ (g : Gh) (v6 : Value), Fr gI wI g w ∧ e 6 = v6 ∧ RV g.m w (s.1 : List Int) v6 ∧ OS 4024 g w 3 (s.1 : List Int) v6 ∧ e 25 = up0 ∧ RV g.m w (x0 : List (List Int)) up0 ∧ e 26 = .int .i64 (((x0).length : Int)) ∧ e 27 = .int .i64 (s.2)) ⟨kH, (kG), hfr, rfl, lH, o26, rfl, n9, rfl, rfl⟩ (fun X42 eG yG => ?_);rintro ⟨mB, l5⟩ zH lI ⟨lE, sF, hfr, nD, oD, yD, vB, i6, yB, lB⟩ h;refine Zf (Za (Gg (.bool ((decide (l5 < ((x0).length : Int))))) lB yB rfl rfl ?_));refine Zb (Zd (Zf ?_));rcases Zt h with ⟨uC, h⟩ | ⟨uC, h⟩
   ·refine Tn uC rfl ?_
    refine Zu (Zd ?_);obtain ⟨g8, hx, h⟩ := Ga h;refine Gp (fun e w => ∃ (g : Gh) (v6 : Value), Fr gI wI g w ∧ e 6 = v6 ∧ RV g.m w (g8 : List Int) v6 ∧ OS 4024 g w 3 (g8 : List Int) v6 ∧ e 25 = up0 ∧ RV g.m w (x0 : List (List Int)) up0 ∧ e 26 = .int .i64 (((x0).length : Int)) ∧ e 27 = .int .i64 (l5)) (fun Q' hQ => ?_) (fun aI mI hR => ?_)
    ·replace h := hx
     clear hx;refine Zr ?_;refine Zf (Za ?_);obtain ⟨gG, mE, h⟩ := Ga h;refine Zw (Ty up0 l5 1) (Zh (α := List Int) Try.underlying76 Try.sizeOf31 vB i6 lB mE) rfl ?_;have mH := Tp i6 mE;refine Ze .plain rfl (Gf (g := lE) Try.isAgg31 Try.sizeOf31 rfl mH fun lG nH => ?_);refine Zg lG rfl rfl ?_;refine Zb (Zd (Za (Zo nD rfl ?_)));refine Zn lG rfl rfl ?_;obtain ⟨iG, zG, h⟩ := Ga h;refine Ze .plain rfl (Kg (g := lE) (i := 4024) Try.underlying31 Hi rfl rfl yD oD rfl nH zG fun oH nI mG hs o53 pH _ => ?_);have hfr := hfr.stp hs;have i6 := i6.stp hs;refine Zg mG rfl rfl ?_;refine Zb (Ts ?_);obtain rfl := sinj h;exact hQ _ _ ⟨oH, (mG), hfr, rfl, pH, o53, vB, i6, yB, lB⟩
    ·clear hx
     obtain ⟨qH, tF, hfr, uF, vF, xF, oE, rE, uE, vE⟩ := hR;refine Za (Gg (.int .i64 ((w64 (l5 + (1 : Int))))) vE rfl rfl rfl ?_);refine Zn (.int .i64 ((w64 (l5 + (1 : Int))))) rfl rfl ?_;exact Zb (Zd (yG (g8, (w64 (l5 + (1 : Int)))) _ _ ⟨qH, (tF), hfr, uF, vF, xF, oE, rE, uE, rfl⟩ h))
   ·refine To uC rfl ?_
    refine Qc ?_;refine Tf ?_;refine Tf ?_;refine Tl ?_;obtain rfl := sinj h;exact hQ _ _ ⟨lE, (sF), hfr, nD, oD, yD⟩
  ·clear hx
   obtain ⟨pI, zD, hfr, yF, aG, sH⟩ := hR;refine Zf (Za (Zo yF rfl ?_));refine Zg zD rfl rfl ?_;refine Zb (Zd (Gq ?_));obtain rfl := sinj h;exact Qr rfl rfl (show _ = zD from rfl) ⟨_, hfr, aG⟩
def f97 (x0 : List Int) (x1 : Int) (x2 : Int) (x3 : Int) (x4 : Int → Int → Option Int) : Option ((List Int)) :=
 Option.bind (α := (List Int) × Int) (
  lp (σ := (List Int) × Int × Int) (fun bD (n8, o0, l5) =>
   jn (σ := Unit) (fun _ =>
    bif (decide (o0 > l5)) then
     (f102 n8 ((w64 (x2 - o0))) x2 l5 x4).bind fun cD =>
     bD (cD, (w64 (o0 - l5)), l5)
    else
     (f102 n8 ((w64 (x2 - o0))) ((w64 ((w64 (x2 + l5)) - o0))) o0 x4).bind fun lD =>
     bD (lD, o0, (w64 (l5 - o0)))
    ) fun bE =>
   bif (o0 != l5) then
    bE ()
   else
    some (n8, o0)
   ) big (x0, (w64 (x2 - x1)), (w64 (x3 - x2)))
  ) fun (aB, i6) =>
 (f102 aB ((w64 (x2 - i6))) x2 i6 x4).bind fun iE =>
 some (iE)
theorem en97 : Enters Try.prog 97 := enters_of Try.func97 (by kernel_rfl) rfl
theorem wk97 {iI : Nat} {gI : Gh} {wI : World} {x0 : List Int} {x1 : Int} {x2 : Int} {x3 : Int} {x4 : Int → Int → Option Int} {up0 : Value} (mp0 : OM iI gI wI 3 x0 up0) {up4 : Value} (rp4 : Ui Try.prog x4 up4 gI wI) {r : (List Int)} (h : f97 x0 x1 x2 x3 x4 = some r) : FnM Try.prog 97 #[up0, .int .i64 (x1), .int .i64 (x2), .int .i64 (x3), up4] iI gI wI (fun g w v => v = .tuple #[] ∧ OM iI g w 3 r up0) := by
 unfold f97 at h;refine Yd Try.func97 rfl (Nat.le_of_ble_eq_true rfl) fun g0 hm hfr => ?_;have oD := mp0;replace mp0 := mp0.enter;rw [← hm] at mp0
 replace hm : g0.m = gI.m := by rw [hm]
 obtain ⟨ff4, fa4, fc4, rfl, fen4, fcl4⟩ := rp4;show E _ 58 none _ _ _ _ _;refine Zf (Za (Zn (.int .i64 (x2)) rfl rfl ?_));refine Zn (.int .i64 (x1)) rfl rfl ?_;refine Gg (.int .i64 ((w64 (x2 - x1)))) rfl rfl rfl rfl ?_;refine Zg (.int .i64 ((w64 (x2 - x1)))) rfl rfl ?_;refine Zb (Zd (Zf (Za (Zn (.int .i64 (x3)) rfl rfl ?_))));refine Zn (.int .i64 (x2)) rfl rfl ?_;refine Gg (.int .i64 ((w64 (x3 - x2)))) rfl rfl rfl rfl ?_;refine Zg (.int .i64 ((w64 (x3 - x2)))) rfl rfl ?_;refine Zb (Zd ?_);obtain ⟨⟨aB, i6⟩, hx, h⟩ := Ga h;refine Gp (fun e w => ∃ (g : Gh) , FrM iI gI wI g w ∧ e 0 = up0 ∧ OM 1 g w 3 (aB : List Int) up0 ∧ e 2 = .int .i64 (x2) ∧ e 4 = (.func (.func ff4) fa4 fc4) ∧ e 10 = .int .i64 (i6)) (fun Q' hQ => ?_) (fun zE tF hR => ?_)
 ·replace h := hx
  clear hx;refine Zr ?_;refine Wv h (fun (s : (List Int) × Int × Int) e w => ∃ (g : Gh) , FrM iI gI wI g w ∧ e 0 = up0 ∧ OM 1 g w 3 (s.1 : List Int) up0 ∧ e 2 = .int .i64 (x2) ∧ e 4 = (.func (.func ff4) fa4 fc4) ∧ e 10 = .int .i64 (s.2.1) ∧ e 11 = .int .i64 (s.2.2)) ⟨g0, hfr, rfl, mp0, rfl, rfl, rfl, rfl⟩ (fun X12 bD nD => ?_);rintro ⟨n8, o0, l5⟩ cF uF ⟨lE, hfr, vB, yB, zB, cC, n9, lB⟩ h;refine Zq h (fun (s : Unit) e w => ∃ (g : Gh) , FrM iI gI wI g w ∧ e 0 = up0 ∧ OM 1 g w 3 (n8 : List Int) up0 ∧ e 2 = .int .i64 (x2) ∧ e 4 = (.func (.func ff4) fa4 fc4) ∧ e 10 = .int .i64 (o0) ∧ e 11 = .int .i64 (l5)) (fun X15 bE oE h => ?_) ?_
  ·refine Zf (Za (Zo n9 rfl ?_))
   refine Zo lB rfl ?_;refine Gg (.bool ((o0 != l5))) rfl rfl rfl rfl ?_;refine Zb (Zd ?_);rcases Zt h with ⟨nB, h⟩ | ⟨nB, h⟩
   ·refine Tn nB rfl ?_
    exact Zu (Zd (oE () _ _ ⟨lE, hfr, vB, yB, zB, cC, n9, lB⟩ h))
   ·refine To nB rfl ?_
    refine Qc ?_;refine Tf ?_;refine Tf ?_;refine Tl ?_;obtain ⟨rfl, rfl⟩ := Hn h;exact hQ _ _ ⟨lE, hfr, vB, yB, zB, cC, n9⟩
  ·rintro _ dF vF ⟨mE, hfr, v8, uC, l8, l9, t5, g8⟩ h
   refine Zr ?_;refine Zf (Za (Zo t5 rfl ?_));refine Zo g8 rfl ?_;refine Gg (.bool ((decide (o0 > l5)))) rfl rfl rfl rfl ?_;refine Zb (Zd ?_);rcases Zt h with ⟨oB, h⟩ | ⟨oB, h⟩
   ·refine Tn oB rfl ?_
    refine Zf (Za (Zo v8 rfl ?_));refine Zo l8 rfl ?_;refine Zo t5 rfl ?_;refine Gg (.int .i64 ((w64 (x2 - o0)))) rfl rfl rfl rfl ?_;refine Zo l8 rfl ?_;refine Zo g8 rfl ?_;refine Zo l9 rfl ?_;obtain ⟨cD, hy20, h⟩ := Ga h;refine Ze .plain rfl (Hu (g := mE) (i := 1) (vs := [up0, .int .i64 ((w64 (x2 - o0))), .int .i64 (x2), .int .i64 (l5), (.func (.func ff4) fa4 fc4)]) en102 (.cons rfl (.cons rfl (.cons rfl (.cons rfl (.cons rfl .nil))))) (wk102 uC (Ui.ch ⟨_, _, _, rfl, fen4, fcl4⟩ hfr.ch) hy20) fun vE eF xF hs hr => ?_);obtain ⟨hrv, b19⟩ := hr;have hfr := hfr.stp hs;subst hrv;refine Zb (Zd (Za (Zo t5 rfl ?_)));refine Zo g8 rfl ?_;refine Gg (.int .i64 ((w64 (o0 - l5)))) rfl rfl rfl rfl ?_;refine Zg (.int .i64 ((w64 (o0 - l5)))) rfl rfl ?_;exact Zb (Ts (Zd (nD (cD, (w64 (o0 - l5)), l5) _ _ ⟨vE, hfr, v8, b19, l8, l9, rfl, g8⟩ h)))
   ·refine To oB rfl ?_
    refine Zf (Za (Zo v8 rfl ?_));refine Zo l8 rfl ?_;refine Zo t5 rfl ?_;refine Gg (.int .i64 ((w64 (x2 - o0)))) rfl rfl rfl rfl ?_;refine Zo l8 rfl ?_;refine Zo g8 rfl ?_;refine Gg (.int .i64 ((w64 (x2 + l5)))) rfl rfl rfl rfl ?_;refine Zo t5 rfl ?_;refine Gg (.int .i64 ((w64 ((w64 (x2 + l5)) - o0)))) rfl rfl rfl rfl ?_;refine Zo t5 rfl ?_;refine Zo l9 rfl ?_;obtain ⟨lD, rE, h⟩ := Ga h;refine Ze .plain rfl (Hu (g := mE) (i := 1) (vs := [up0, .int .i64 ((w64 (x2 - o0))), .int .i64 ((w64 ((w64 (x2 + l5)) - o0))), .int .i64 (o0), (.func (.func ff4) fa4 fc4)]) en102 (.cons rfl (.cons rfl (.cons rfl (.cons rfl (.cons rfl .nil))))) (wk102 uC (Ui.ch ⟨_, _, _, rfl, fen4, fcl4⟩ hfr.ch) rE) fun xE rF yF hs hr => ?_);obtain ⟨hrv, b21⟩ := hr;have hfr := hfr.stp hs;subst hrv;refine Zb (Zd (Za (Zo g8 rfl ?_)));refine Zo t5 rfl ?_;refine Gg (.int .i64 ((w64 (l5 - o0)))) rfl rfl rfl rfl ?_;refine Zg (.int .i64 ((w64 (l5 - o0)))) rfl rfl ?_;exact Zb (Ts (Zd (nD (lD, o0, (w64 (l5 - o0))) _ _ ⟨xE, hfr, v8, b21, l8, l9, t5, rfl⟩ h)))
 ·clear hx
  obtain ⟨yE, hfr, yD, zD, vC, aE, mB⟩ := hR;refine Za (Zo yD rfl ?_);refine Zo vC rfl ?_;refine Zo mB rfl ?_;refine Gg (.int .i64 ((w64 (x2 - i6)))) rfl rfl rfl rfl ?_;refine Zo vC rfl ?_;refine Zo mB rfl ?_;refine Zo aE rfl ?_;obtain ⟨iE, uE, h⟩ := Ga h;refine Ze .plain rfl (Hu (g := yE) (i := 1) (vs := [up0, .int .i64 ((w64 (x2 - i6))), .int .i64 (x2), .int .i64 (i6), (.func (.func ff4) fa4 fc4)]) en102 (.cons rfl (.cons rfl (.cons rfl (.cons rfl (.cons rfl .nil))))) (wk102 zD (Ui.ch ⟨_, _, _, rfl, fen4, fcl4⟩ hfr.ch) uE) fun aG sF bG hs hr => ?_);obtain ⟨hrv, b24⟩ := hr;have hfr := hfr.stp hs;subst hrv;refine Zb ?_;obtain rfl := sinj h;exact Vu rfl rfl ⟨_, hfr, rfl, oD.back b24⟩
def f98 (x0 : List (List Int)) (x1 : (List Int) → Option Bool) : Option (Bool) :=
 (f103 x0 x1).bind fun y2 =>
 some ((decide (y2 ≥ (0 : Int))))
theorem en98 : Enters Try.prog 98 := enters_of Try.func98 (by kernel_rfl) rfl
theorem wk98 {gI : Gh} {wI : World} {x0 : List (List Int)} {x1 : (List Int) → Option Bool} {up0 : Value} (rp0 : RV gI.m wI x0 up0) {up1 : Value} (rp1 : Sq Try.prog x1 up1 gI wI) {r : Bool} (h : f98 x0 x1 = some r) : Fn Try.prog 98 #[up0, up1] gI wI (fun _ _ v => v = .bool (r)) := by
 unfold f98 at h;refine Gw Try.func98 rfl (Nat.le_of_ble_eq_true rfl) fun g0 hm hfr => ?_;have rp0 : RV g0.m wI x0 up0 := hm ▸ rp0;obtain ⟨ff1, fa1, fc1, rfl, fen1, fcl1⟩ := rp1;show E _ 9 none _ _ _ _ _;refine Zf (Za (Zg (.bool false) rfl rfl ?_));refine Zb (Zd (Zf (Za (Zn up0 rfl rfl ?_))));refine Zn ((.func (.func ff1) fa1 fc1)) rfl rfl ?_;obtain ⟨y2, hy2, h⟩ := Ga h;refine Ze .plain rfl (Zp (g := g0) (vs := [up0, (.func (.func ff1) fa1 fc1)]) en103 (.cons rfl (.cons rfl .nil)) (wk103 rp0 (Sq.ch ⟨_, _, _, rfl, fen1, fcl1⟩ hfr.ch) hy2) fun g1 w1_ v1 hs hr => ?_);have hfr := hfr.ext hs;subst hr;refine Gg (.bool ((decide (y2 ≥ (0 : Int))))) rfl rfl rfl rfl ?_;refine Zg (.bool ((decide (y2 ≥ (0 : Int))))) rfl rfl ?_;refine Zb (Zd (Gq ?_));obtain rfl := sinj h;exact Qr rfl rfl (show _ = .bool ((decide (y2 ≥ (0 : Int)))) from rfl) ⟨_, hfr, rfl⟩
def f20 (x0 : Int) (x1 : Int) (x2 : List Int) : Option (Bool) :=
 (f39 x2 ((fun a0 => f40 a0 x0 x1))).bind fun y4 =>
 some ((!y4))
theorem en20 : Enters Try.prog 20 := enters_of Try.func20 (by kernel_rfl) rfl
theorem wk20 {gI : Gh} {wI : World} {x0 : Int} {x1 : Int} {x2 : List Int} {up2 : Value} (rp2 : RV gI.m wI x2 up2) {r : Bool} (h : f20 x0 x1 x2 = some r) : Fn Try.prog 20 #[.int .i64 (x0), .int .i64 (x1), up2] gI wI (fun _ _ v => v = .bool (r)) := by
 unfold f20 at h;refine Gw Try.func20 rfl (Nat.le_of_ble_eq_true rfl) fun g0 hm hfr => ?_;have rp2 : RV g0.m wI x2 up2 := hm ▸ rp2;show E _ 11 none _ _ _ _ _;refine Zf (Za (Ze .plain rfl (Qs (g := g0) rfl (Zj.2 rfl) fun g1 w1 p1 hs q1 => ?_)));have hfr := hfr.ext hs;have rp2 := rp2.ext hs;refine Ze .plain rfl (Qs (g := g1) rfl (Zj.2 rfl) fun g2 w2 p2 hs q2 => ?_);have hfr := hfr.ext hs;have rp2 := rp2.ext hs;have q1 := q1.ext hs;refine Zg (.bool false) rfl rfl ?_;refine Zb (Zd (Zf (Za (Zn up2 rfl rfl ?_))));refine Zw ((.func (.func 40) #[] #[p1, p2])) (Hy (Rm (show ev _ _ = p1 from rfl) (show ev _ _ = p2 from rfl))) rfl ?_;obtain ⟨y4, o0, h⟩ := Ga h;refine Ze .plain rfl (Zp (g := g2) (vs := [up2, (.func (.func 40) #[] #[p1, p2])]) en39 (.cons rfl (.cons rfl .nil)) (wk39 rp2 ⟨40, #[], #[p1, p2], rfl, en40, fun g' w' hch a0 b0 r hu0 hr => by obtain rfl := Zj.1 hu0; exact Fn.mono (wk40  (q1.ch hch) (q2.ch hch) hr) fun _ _ _ h => Kl.2 h⟩ o0) fun g3 w3_ v3 hs hr => ?_);have hfr := hfr.ext hs;subst hr;refine Zw (.bool (!y4)) (Wh rfl) rfl ?_;refine Zg (.bool (!y4)) rfl rfl ?_;refine Zb (Zd (Gq ?_));obtain rfl := sinj h;exact Qr rfl rfl (show _ = .bool (!y4) from rfl) ⟨_, hfr, rfl⟩
def f32 (x0 : Int) (x1 : Int) (x2 : List Int) : Option (Bool) :=
 (f39 x2 ((fun a0 => f50 a0 x0 x1))).bind fun y4 =>
 some ((!y4))
theorem en32 : Enters Try.prog 32 := enters_of Try.func32 (by kernel_rfl) rfl
theorem wk32 {gI : Gh} {wI : World} {x0 : Int} {x1 : Int} {x2 : List Int} {up2 : Value} (rp2 : RV gI.m wI x2 up2) {r : Bool} (h : f32 x0 x1 x2 = some r) : Fn Try.prog 32 #[.int .i64 (x0), .int .i64 (x1), up2] gI wI (fun _ _ v => v = .bool (r)) := by
 unfold f32 at h;refine Gw Try.func32 rfl (Nat.le_of_ble_eq_true rfl) fun g0 hm hfr => ?_;have rp2 : RV g0.m wI x2 up2 := hm ▸ rp2;show E _ 11 none _ _ _ _ _;refine Zf (Za (Ze .plain rfl (Qs (g := g0) rfl (Zj.2 rfl) fun g1 w1 p1 hs q1 => ?_)));have hfr := hfr.ext hs;have rp2 := rp2.ext hs;refine Ze .plain rfl (Qs (g := g1) rfl (Zj.2 rfl) fun g2 w2 p2 hs q2 => ?_);have hfr := hfr.ext hs;have rp2 := rp2.ext hs;have q1 := q1.ext hs;refine Zg (.bool false) rfl rfl ?_;refine Zb (Zd (Zf (Za (Zn up2 rfl rfl ?_))));refine Zw ((.func (.func 50) #[] #[p1, p2])) (Hy (Rm (show ev _ _ = p1 from rfl) (show ev _ _ = p2 from rfl))) rfl ?_;obtain ⟨y4, o0, h⟩ := Ga h;refine Ze .plain rfl (Zp (g := g2) (vs := [up2, (.func (.func 50) #[] #[p1, p2])]) en39 (.cons rfl (.cons rfl .nil)) (wk39 rp2 ⟨50, #[], #[p1, p2], rfl, en50, fun g' w' hch a0 b0 r hu0 hr => by obtain rfl := Zj.1 hu0; exact Fn.mono (wk50  (q1.ch hch) (q2.ch hch) hr) fun _ _ _ h => Kl.2 h⟩ o0) fun g3 w3_ v3 hs hr => ?_);have hfr := hfr.ext hs;subst hr;refine Zw (.bool (!y4)) (Wh rfl) rfl ?_;refine Zg (.bool (!y4)) rfl rfl ?_;refine Zb (Zd (Gq ?_));obtain rfl := sinj h;exact Qr rfl rfl (show _ = .bool (!y4) from rfl) ⟨_, hfr, rfl⟩
def f41 (x0 : Int) (x1 : Int) : Option (Int) :=
 (f64 ((⟨(Qk x1)⟩ : U64))).bind fun y2 =>
 (Hz ((y2).n) (Qk (((64 : Int)) - ((Qk x0))))).bind fun y3 =>
 some ((w64 y3))
theorem en41 : Enters Try.prog 41 := enters_of Try.func41 (by kernel_rfl) rfl
theorem wk41 {gI : Gh} {wI : World} {x0 : Int} {x1 : Int}  {r : Int} (h : f41 x0 x1 = some r) : Fn Try.prog 41 #[.int .i64 (x0), .int .i64 (x1)] gI wI (fun _ _ v => v = .int .i64 (r)) := by
 unfold f41 at h;refine Gw Try.func41 rfl (Nat.le_of_ble_eq_true rfl) fun g0 hm hfr => ?_;show E _ 13 none _ _ _ _ _;refine Zf (Za (Zg (.int .i64 (0)) rfl rfl ?_));refine Zb (Zd (Zf (Za (Zn (.int .i64 (x1)) rfl rfl ?_))));refine Zw (.int .u64 (Qk x1)) (Jh Try.underlying3 Try.underlying129 rfl) rfl ?_;obtain ⟨y2, hy2, h⟩ := Ga h;refine Ze .plain rfl (Zp (g := g0) (vs := [.int .u64 (Qk x1)]) en64 (.cons rfl .nil) (wk64  hy2) fun g1 w1_ v1 hs hr => ?_);have hfr := hfr.ext hs;subst hr;refine Zn (.int .i64 (x0)) rfl rfl ?_;refine Zw (.int .u64 (Qk x0)) (Jh Try.underlying57 Try.underlying62 rfl) rfl ?_;refine Zw (.int .u64 (Qk (((64 : Int)) - ((Qk x0))))) (P_usub rfl rfl) rfl ?_;obtain ⟨y3, hy3, h⟩ := Ga h;refine Zw (.int .u64 (y3)) (Hw rfl rfl hy3) rfl ?_;refine Zw (.int .i64 ((w64 y3))) (Yw Try.underlying129 Try.underlying3 rfl) rfl ?_;refine Zg (.int .i64 ((w64 y3))) rfl rfl ?_;refine Zb (Zd (Gq ?_));obtain rfl := sinj h;exact Qr rfl rfl (show _ = .int .i64 ((w64 y3)) from rfl) ⟨_, hfr, rfl⟩
def f44 (x0 : List Int) (x1 : Int) : Option ((List Int)) :=
 Option.bind (α := Unit) (
  bif (decide (x1 < (0 : Int))) then
   none
  else
   some ()
  ) fun (_ : Unit) =>
 (f66 ((⟨(Qk ((x0).length : Int))⟩ : U64)) ((⟨(Qk x1)⟩ : U64))).bind fun y5 =>
 Option.bind (α := Unit) (
  Option.bind (α := Bool) (
   bif (decide ((y5.1).n > (0 : Int))) then
    some (true)
   else
    some ((decide ((y5.2).n > (9223372036854775807 : Int))))
   ) fun i6 =>
  bif i6 then
   none
  else
   some ()
  ) fun (_ : Unit) =>
 (mks 8 (0 : Int) ((w64 ((y5.2).n)))).bind fun oB =>
 Option.bind (α := (List Int)) (
  lp (σ := (List Int) × Int) (fun bE (l5, o0) =>
   jn (σ := Unit) (fun _ =>
    (cut l5 o0 ((l5).length : Int)).bind fun n8 =>
    (cut l5 0 o0).bind fun y40 =>
    bE ((cpy l5 o0 n8 y40), (w64 (o0 + ((min (y40).length (n8).length : Nat) : Int))))
    ) fun k33 =>
   bif (decide (o0 < ((l5).length : Int))) then
    k33 ()
   else
    some (l5)
   ) big ((cpy oB 0 oB x0), ((min (x0).length (oB).length : Nat) : Int))
  ) fun l9 =>
 some (l9)
theorem en44 : Enters Try.prog 44 := enters_of Try.func44 (by kernel_rfl) rfl
def f49 (x0 : Gz) (x1 : Int) : Option (Int) :=
 (f70 (((x0).PayList).Rates) x1 ((fun a0 a1 => f71 a0 a1))).bind fun y6 =>
 Option.bind (α := Int) (
  bif (!y6.2) then
   some ((w64 (y6.1 - (1 : Int))))
  else
   some (y6.1)
  ) fun o0 =>
 (idx (((x0).PayList).Rates) o0).bind fun l5 =>
 some ((l5).Rate)
theorem en49 : Enters Try.prog 49 := enters_of Try.func49 (by kernel_rfl) rfl
theorem wk49 {gI : Gh} {wI : World} {x0 : Gz} {x1 : Int} {up0 : Value} (rp0 : RV gI.m wI x0 up0) {r : Int} (h : f49 x0 x1 = some r) : Fn Try.prog 49 #[up0, .int .i64 (x1)] gI wI (fun _ _ v => v = .int .i64 (r)) := by
 unfold f49 at h;refine Gw Try.func49 rfl (Nat.le_of_ble_eq_true rfl) fun g0 hm hfr => ?_;have rp0 : RV g0.m wI x0 up0 := hm ▸ rp0;show E _ 26 none _ _ _ _ _;refine Zf (Za (Ze .plain rfl (Qs (g := g0) rfl rp0 fun g1 w1 p1 hs q1 => ?_)));have hfr := hfr.ext hs;refine Zg (.int .i64 (0)) rfl rfl ?_;refine Zb (Zd (Zf (Za (Zw (Gk p1 0) (Zc Ub rfl (PT.ptr q1)) rfl ?_))));have q2 := Zm (Wg).1 q1;refine Zw (Gk (Gk p1 0) 0) (Zc Vg rfl (PT.ptr q2)) rfl ?_;have q3 := Zm (Kf).1 q2;refine Ze .plain rfl (Gf (g := g1) Try.isAgg35 Try.sizeOf35 rfl q3 fun v4 r4 => ?_);refine Zn (.int .i64 (x1)) rfl rfl ?_;obtain ⟨y6, aB, h⟩ := Ga h;refine Ze .plain rfl (Zp (g := g1) (vs := [v4, .int .i64 (x1), .func (.func 71) #[] #[]]) en70 (.cons rfl (.cons rfl (.cons rfl .nil))) (wk70 r4 ⟨71, #[], #[], rfl, en71, fun g' w' hch a0 a1 b0 b1 r hu0 hu1 hr => by obtain rfl := Zj.1 hu1; exact Fn.mono (wk71 hu0  hr) fun _ _ _ h => Zj.2 h⟩ aB) fun g5 w5_ v5 hs hr => ?_);have hfr := hfr.ext hs;have q1 := q1.ext hs;obtain ⟨oB, vB, rfl, rfl, rfl⟩ := hr;refine Zn (.tuple #[.int .i64 (y6.1), .bool (y6.2)]) rfl rfl ?_;refine Zw (.int .i64 (y6.1)) (Zi rfl rfl) rfl ?_;refine Zw (.bool (y6.2)) (Zi rfl rfl) rfl ?_;refine Zg (.int .i64 (y6.1)) rfl rfl ?_;refine Zg (.bool (y6.2)) rfl rfl ?_;refine Zb (Zd ?_);obtain ⟨o0, hx, h⟩ := Ga h;refine Gp (fun e w => ∃ (g : Gh) , Fr gI wI g w ∧ e 2 = p1 ∧ PT g.m w (x0 : Gz) p1 ∧ e 5 = .int .i64 (o0)) (fun Q' hQ => ?_) (fun yB w9 hR => ?_)
 ·replace h := hx
  clear hx;refine Zf (Za (Zn (.bool (y6.2)) rfl rfl ?_));refine Zw (.bool (!y6.2)) (Wh rfl) rfl ?_;refine Zb (Zd ?_);rcases Zt h with ⟨hc8, h⟩ | ⟨hc8, h⟩
  ·refine Tn hc8 rfl ?_
   refine Za (Zn (.int .i64 (y6.1)) rfl rfl ?_);refine Gg (.int .i64 ((w64 (y6.1 - (1 : Int))))) rfl rfl rfl rfl ?_;refine Zg (.int .i64 ((w64 (y6.1 - (1 : Int))))) rfl rfl ?_;refine Zb ?_;obtain rfl := sinj h;exact hQ _ _ ⟨g5, hfr, rfl, q1, rfl⟩
  ·refine To hc8 rfl ?_
   refine Zu ?_;obtain rfl := sinj h;exact hQ _ _ ⟨g5, hfr, rfl, q1, rfl⟩
 ·clear hx
  obtain ⟨g9, hfr, l9, t5, n9⟩ := hR;refine Zf (Za (Zw (Gk p1 0) (Zc Ub l9 (PT.ptr t5)) rfl ?_));have g8 := Zm (Wg).1 t5;refine Zw (Gk (Gk p1 0) 0) (Zc Vg rfl (PT.ptr g8)) rfl ?_;have lB := Zm (Kf).1 g8;refine Ze .plain rfl (Gf (g := g9) Try.isAgg35 Try.sizeOf35 rfl lB fun l8 n8 => ?_);refine Zo n9 rfl ?_;obtain ⟨l5, i6, h⟩ := Ga h;refine Zw (Ty l8 o0 2) (Zh (α := Gr) Try.underlying35 Try.sizeOf64 rfl n8 rfl i6) rfl ?_;have v8 := Tp n8 i6;refine Zw (Gk (Ty l8 o0 2) 1) (Zc My rfl (PT.ptr v8)) rfl ?_;have mB := Zm (Vo).1 v8;refine Ze .plain rfl (Gf (g := g9) Try.isAgg3 Try.sizeOf3 rfl mB fun zB nB => ?_);obtain rfl := Zj.1 nB;refine Zg (.int .i64 ((l5).Rate)) rfl rfl ?_;refine Zb (Zd (Gq ?_));obtain rfl := sinj h;exact Qr rfl rfl (show _ = .int .i64 ((l5).Rate) from rfl) ⟨_, hfr, rfl⟩
def f55 (x0 : Int) (x1 : Int) (z0 : Int) (z1 : List Int) (z2 : Int) : Option (Int) :=
 (idx z1 x1).bind fun y3 =>
 (Yl (w64 (z0 * y3)) z2).bind fun y7 =>
 (idx z1 x0).bind fun l5 =>
 (Yl (w64 (z0 * l5)) z2).bind fun t5 =>
 (f56 y7 t5).bind fun o0 =>
 some (o0)
theorem en55 : Enters Try.prog 55 := enters_of Try.func55 (by kernel_rfl) rfl
theorem wk55 {gI : Gh} {wI : World} {x0 : Int} {x1 : Int} {z0 : Int} {z1 : List Int} {z2 : Int} {pf0 : Value} (qf0 : PT gI.m wI z0 pf0) {pf1 : Value} (qf1 : PT gI.m wI z1 pf1) {pf2 : Value} (qf2 : PT gI.m wI z2 pf2) {r : Int} (h : f55 x0 x1 z0 z1 z2 = some r) : Fn Try.prog 55 #[.int .i64 (x0), .int .i64 (x1), pf0, pf1, pf2] gI wI (fun _ _ v => v = .int .i64 (r)) := by
 unfold f55 at h;refine Gw Try.func55 rfl (Nat.le_of_ble_eq_true rfl) fun g0 hm hfr => ?_;have qf0 : PT g0.m wI z0 pf0 := hm ▸ qf0;have qf1 : PT g0.m wI z1 pf1 := hm ▸ qf1;have qf2 : PT g0.m wI z2 pf2 := hm ▸ qf2;show E _ 25 none _ _ _ _ _;refine Zf (Za (Zg (.int .i64 (0)) rfl rfl ?_));refine Zb (Zd (Zf (Zs (x := .tmp 2) Try.isAgg3 Try.sizeOf3 qf0 fun v1 r1 hl1 => ?_)));obtain rfl := Zj.1 r1;refine Zs (x := .tmp 3) Try.isAgg31 Try.sizeOf31 qf1 fun v2 r2 hl2 => ?_;obtain ⟨y3, hy3, h⟩ := Ga h;have q4 := Tp r2 hy3;refine Zs (x := .tmp 11) Try.isAgg3 Try.sizeOf3 q4 fun v5 r5 l9 => ?_;obtain rfl := Zj.1 r5;refine Zs (x := .tmp 4) Try.isAgg3 Try.sizeOf3 qf2 fun v6 r6 n9 => ?_;obtain rfl := Zj.1 r6;obtain ⟨y7, aB, h⟩ := Ga h;refine Zs (x := .tmp 2) Try.isAgg3 Try.sizeOf3 qf0 fun v8 r8 lB => ?_;obtain rfl := Zj.1 r8;refine Zs (x := .tmp 3) Try.isAgg31 Try.sizeOf31 qf1 fun v9 r9 mB => ?_;obtain ⟨l5, i6, h⟩ := Ga h;have nB := Tp r9 i6;refine Zs (x := .tmp 19) Try.isAgg3 Try.sizeOf3 nB fun yB oB hl12 => ?_;obtain rfl := Zj.1 oB;refine Zs (x := .tmp 4) Try.isAgg3 Try.sizeOf3 qf2 fun zB vB g8 => ?_;obtain rfl := Zj.1 vB;obtain ⟨t5, l8, h⟩ := Ga h;obtain ⟨o0, n8, h⟩ := Ga h;refine Tx (g := g0) (n := 18) [(16, (fun v g w => v = .int .i64 (o0)))] [0, 1, 2, 3, 4, 5, 6, 7, 8, 9, 10, 11, 12, 13, 14, 15, 16, 17] rfl Qq (by kernel_rfl) (⟨fun _ => Wf _, trivial⟩) ?_;refine Tt (c := .int .i64 (z0)) rfl rfl .plain (fun _ _ h => h.ch) hl1 rfl ?_;refine Tt (c := v2) rfl rfl .plain (fun _ _ h => h.ch) hl2 rfl ?_;refine Zz (.int .i64 (x1)) rfl rfl (Zk rfl) ?_;refine Zz (Ty v2 x1 1) rfl rfl (Zh (α := Int) Try.underlying31 Try.sizeOf3 rfl r2 rfl hy3) ?_;refine Tt (c := .int .i64 (y3)) rfl rfl .plain (fun _ _ h => h.ch) l9 rfl ?_;refine Zz (.int .i64 ((w64 (z0 * y3)))) rfl rfl (Gj rfl rfl rfl) ?_;refine Tt (c := .int .i64 (z2)) rfl rfl .plain (fun _ _ h => h.ch) n9 rfl ?_;refine Zz (.int .i64 (y7)) rfl rfl (Gj rfl rfl (congrArg (Option.map (Value.int .i64)) aB)) ?_;refine Tt (c := .int .i64 (z0)) rfl rfl .plain (fun _ _ h => h.ch) lB rfl ?_;refine Tt (c := v9) rfl rfl .plain (fun _ _ h => h.ch) mB rfl ?_;refine Zz (.int .i64 (x0)) rfl rfl (Zk rfl) ?_;refine Zz (Ty v9 x0 1) rfl rfl (Zh (α := Int) Try.underlying31 Try.sizeOf3 rfl r9 rfl i6) ?_;refine Tt (c := .int .i64 (l5)) rfl rfl .plain (fun _ _ h => h.ch) hl12 rfl ?_;refine Zz (.int .i64 ((w64 (z0 * l5)))) rfl rfl (Gj rfl rfl rfl) ?_;refine Tt (c := .int .i64 (z2)) rfl rfl .plain (fun _ _ h => h.ch) g8 rfl ?_;refine Zz (.int .i64 (t5)) rfl rfl (Gj rfl rfl (congrArg (Option.map (Value.int .i64)) l8)) ?_;refine Ka (φ := fun v g w => v = .int .i64 (o0)) rfl rfl .plain (fun g w hd => Zp (g := g) (vs := [.int .i64 (y7), .int .i64 (t5)]) en56 (.cons rfl (.cons rfl .nil)) (wk56  n8) fun g' w' v hs hr => ⟨g', hs, hr⟩) (fun cC hv => ?_);obtain ⟨_, _, _, rfl⟩ := hv;refine Zz (.int .i64 (o0)) rfl rfl (Tb rfl) ?_;refine Kr fun uC vC hs => ?_;have hfr := hfr.ext hs;clear hs;refine Zb (Zd (Gq ?_));obtain rfl := sinj h;exact Qr rfl rfl (show _ = .int .i64 (o0) from rfl) ⟨_, hfr, rfl⟩
def f60 (x0 : List Int) : Option (Bool) :=
 (f32 ((0 : Int)) ((1000000000 : Int)) x0).bind fun y2 =>
 some (y2)
theorem en60 : Enters Try.prog 60 := enters_of Try.func60 (by kernel_rfl) rfl
theorem wk60 {gI : Gh} {wI : World} {x0 : List Int} {up0 : Value} (rp0 : RV gI.m wI x0 up0) {r : Bool} (h : f60 x0 = some r) : Fn Try.prog 60 #[up0] gI wI (fun _ _ v => v = .bool (r)) := by
 unfold f60 at h;refine Gw Try.func60 rfl (Nat.le_of_ble_eq_true rfl) fun g0 hm hfr => ?_;have rp0 : RV g0.m wI x0 up0 := hm ▸ rp0;show E _ 5 none _ _ _ _ _;refine Zf (Za (Zg (.bool false) rfl rfl ?_));refine Zb (Zd (Zf (Za (Zn up0 rfl rfl ?_))));obtain ⟨y2, hy2, h⟩ := Ga h;refine Ze .plain rfl (Zp (g := g0) (vs := [.int .i64 (0), .int .i64 (1000000000), up0]) en32 (.cons rfl (.cons rfl (.cons rfl .nil))) (wk32 rp0 hy2) fun g1 w1_ v1 hs hr => ?_);have hfr := hfr.ext hs;subst hr;refine Zg (.bool (y2)) rfl rfl ?_;refine Zb (Zd (Gq ?_));obtain rfl := sinj h;exact Qr rfl rfl (show _ = .bool (y2) from rfl) ⟨_, hfr, rfl⟩
def f67 (x0 : Gz) : Option (Bool) :=
 jn (σ := Unit) (fun _ =>
  some ((decide (((((x0).PayList).Rates).length : Int) > (0 : Int))))
  ) fun oE =>
 lp (σ := Int × Int × Int) (fun rE (lB, mB, t5) =>
  bif (decide (t5 < ((((x0).PayList).Rates).length : Int))) then
   jn (σ := Int × Int) (fun (nB, oB) =>
    rE (nB, oB, (w64 (t5 + (1 : Int))))
    ) fun uE =>
   (idx (((x0).PayList).Rates) t5).bind fun i6 =>
   jn (σ := Unit) (fun _ =>
    uE ((w64 ((i6).From + (1 : Int))), (1000 : Int))
    ) fun vE =>
   Option.bind (α := Bool) (
    (f32 lB mB (([(i6).From] : List Int))).bind fun n9 =>
    bif (!n9) then
     some (true)
    else
     (f32 ((0 : Int)) ((10000 : Int)) (([(i6).Rate] : List Int))).bind fun cC =>
     some ((!cC))
    ) fun l8 =>
   bif l8 then
    some (false)
   else
    vE ()
  else
   oE ()
  ) big ((0 : Int), (0 : Int), (0 : Int))
theorem en67 : Enters Try.prog 67 := enters_of Try.func67 (by kernel_rfl) rfl
theorem wk67 {gI : Gh} {wI : World} {x0 : Gz} {up0 : Value} (rp0 : RV gI.m wI x0 up0) {r : Bool} (h : f67 x0 = some r) : Fn Try.prog 67 #[up0] gI wI (fun _ _ v => v = .bool (r)) := by
 unfold f67 at h;refine Gw Try.func67 rfl (Nat.le_of_ble_eq_true rfl) fun g0 hm hfr => ?_;have rp0 : RV g0.m wI x0 up0 := hm ▸ rp0;show E _ 38 none _ _ _ _ _;refine Zf (Za (Ze .plain rfl (Qs (g := g0) rfl rp0 fun g1 w1 p1 hs q1 => ?_)));have hfr := hfr.ext hs;refine Zg (.bool false) rfl rfl ?_;refine Zb (Zd (Zf (Za (Zg (.int .i64 (0)) rfl rfl ?_))));refine Zg (.int .i64 (0)) rfl rfl ?_;refine Zb (Zd (Zq h (fun (s : Unit) e w => ∃ (g : Gh) , Fr gI wI g w ∧ e 1 = p1 ∧ PT g.m w (x0 : Gz) p1) (fun X125 oE yG h => ?_) ?_))
 ·refine Zf (Za (Zw (Gk p1 0) (Zc Ub rfl (PT.ptr q1)) rfl ?_))
  have xE := Zm (Wg).1 q1;refine Zw (Gk (Gk p1 0) 0) (Zc Vg rfl (PT.ptr xE)) rfl ?_;have kH := Zm (Kf).1 xE;refine Ze .plain rfl (Gf (g := g1) Try.isAgg35 Try.sizeOf35 rfl kH fun n8 yE => ?_);refine Zw (.int .i64 ((((x0).PayList).Rates).length : Int)) (Tu Try.underlying35 rfl yE) rfl ?_;refine Zn (.int .i64 (0)) rfl rfl ?_;refine Zb (Zd (Zr ?_));refine Wv h (fun (s : Int × Int × Int) e w => ∃ (g : Gh) , Fr gI wI g w ∧ e 1 = p1 ∧ PT g.m w (x0 : Gz) p1 ∧ e 3 = .int .i64 (s.1) ∧ e 4 = .int .i64 (s.2.1) ∧ e 9 = n8 ∧ RV g.m w (((x0).PayList).Rates : List Gr) n8 ∧ e 10 = .int .i64 (((((x0).PayList).Rates).length : Int)) ∧ e 11 = .int .i64 (s.2.2)) ⟨g1, hfr, rfl, q1, rfl, rfl, rfl, yE, rfl, rfl⟩ (fun X129 rE zG => ?_);rintro ⟨lB, mB, t5⟩ lI kJ ⟨lD, hfr, vB, l5, zE, cF, yB, o0, aB, v8⟩ h;refine Zf (Za (Zw (.bool ((decide (t5 < ((((x0).PayList).Rates).length : Int))))) (Gj v8 aB rfl) rfl ?_));refine Zb (Zd (Zf ?_));rcases Zt h with ⟨uC, h⟩ | ⟨uC, h⟩
  ·refine Tn uC rfl ?_
   refine Zu (Zd (Zq h (fun (s : Int × Int) e w => ∃ (g : Gh) , Fr gI wI g w ∧ e 1 = p1 ∧ PT g.m w (x0 : Gz) p1 ∧ e 3 = .int .i64 (s.1) ∧ e 4 = .int .i64 (s.2) ∧ e 9 = n8 ∧ RV g.m w (((x0).PayList).Rates : List Gr) n8 ∧ e 10 = .int .i64 (((((x0).PayList).Rates).length : Int)) ∧ e 11 = .int .i64 (t5)) (fun X189 uE aH h => ?_) ?_))
   ·refine Zr ?_
    refine Zf (Za ?_);obtain ⟨i6, yD, h⟩ := Ga h;refine Zw (Ty n8 t5 2) (Zh (α := Gr) Try.underlying35 Try.sizeOf64 yB o0 v8 yD) rfl ?_;have lH := Tp o0 yD;refine Ze .plain rfl (Gf (g := lD) Try.isAgg64 Try.sizeOf64 rfl lH fun mH nD => ?_);refine Ze .plain rfl (Ti (g := lD) 2006 (⟨0, 0⟩ : Gr) Try.zeroValue64 (fun m w => ⟨_, (Gv Zv Zv), rfl⟩) fun nH lJ l9 hs b193 cb => ?_);have hfr := hfr.stp hs;have l5 := l5.stp hs;have o0 := o0.stp hs;have nD := nD.stp hs;clear cb;refine Ze .plain rfl (Gm (g := nH) (v := mH) Try.sizeOf64 rfl b193 rfl nD fun dF mJ hs b194 cb => ?_);clear cb;have hfr := hfr.stp hs;have l5 := l5.stp hs;have o0 := o0.stp hs;refine Zb (Zd (Zq h (fun (s : Unit) e w => ∃ (g : Gh) , Fr gI wI g w ∧ e 1 = p1 ∧ PT g.m w (x0 : Gz) p1 ∧ e 6 = l9 ∧ OB 2006 g w 64 (i6 : Gr) l9 ∧ e 9 = n8 ∧ RV g.m w (((x0).PayList).Rates : List Gr) n8 ∧ e 10 = .int .i64 (((((x0).PayList).Rates).length : Int)) ∧ e 11 = .int .i64 (t5)) (fun X219 vE cH h => ?_) ?_))
    ·obtain ⟨l8, hx, h⟩ := Ga h
     refine Gp (fun e w => ∃ (g : Gh) , Fr gI wI g w ∧ e 1 = p1 ∧ PT g.m w (x0 : Gz) p1 ∧ e 6 = l9 ∧ OB 2006 g w 64 (i6 : Gr) l9 ∧ e 9 = n8 ∧ RV g.m w (((x0).PayList).Rates : List Gr) n8 ∧ e 10 = .int .i64 (((((x0).PayList).Rates).length : Int)) ∧ e 11 = .int .i64 (t5) ∧ e 28 = .bool (l8)) (fun Q' hQ => ?_) (fun mI nJ hR => ?_)
     ·replace h := hx
      clear hx;refine Za (Zo zE rfl ?_);refine Zo cF rfl ?_;refine Zw (Gk l9 0) (Zc Lc rfl (OB.ptr b194)) rfl ?_;refine Ze .plain rfl (Wz (g := dF) Yy.1 Try.isAgg3 Try.sizeOf3 rfl b194 fun oJ oH => ?_);obtain rfl := Zj.1 oH;refine Ze .plain rfl (Gl (g := dF) 3019 (xs := ([(i6).From] : List Int)) (vs := [.int .i64 ((i6).From)]) Try.underlying31 Try.sizeOf3 Try.zeroValue3 rfl rfl (.cons rfl .nil) (RVs.cons (Zj.2 rfl) RVs.nil) rfl rfl fun pH pJ qH hs o233 sH hxt hfl => ?_);have hfr := hfr.stp hs;have l5 := l5.stp hs;have o0 := o0.stp hs;have b194 := b194.stp hs rfl;obtain ⟨n9, gH, h⟩ := Ga h;refine Ze .plain rfl (Zp (g := pH) (vs := [.int .i64 (lB), .int .i64 (mB), qH]) en32 (.cons rfl (.cons rfl (.cons rfl .nil))) (wk32 sH gH) fun oD nI qJ hs hr => ?_);have hfr := hfr.ext hs;have l5 := l5.ext hs;have o0 := o0.ext hs;have b194 := b194.ext hs;subst hr;refine Zw (.bool (!n9)) (Wh rfl) rfl ?_;refine Zn (.bool (!n9)) rfl rfl ?_;rcases Zt h with ⟨g8, h⟩ | ⟨g8, h⟩
      ·refine Zy rfl rfl g8 rfl rfl ?_
       iterate 4 refine Zy rfl rfl g8 rfl rfl ?_
       refine Zw (.bool true) (Zl (b := (!n9)) rfl (Tg g8 rfl)) rfl ?_;refine Zb ?_;obtain rfl := sinj h;exact hQ _ _ ⟨oD, hfr, vB, l5, rfl, b194, yB, o0, aB, v8, rfl⟩
      ·refine Zx (Gk l9 1) (Zc My rfl (OB.ptr b194)) rfl rfl g8 rfl ?_
       refine Ze (.yes2 rfl rfl g8) rfl (Wz (g := oD) Vo.1 Try.isAgg3 Try.sizeOf3 rfl b194 fun rJ tH => ?_);obtain rfl := Zj.1 tH;refine Ze (.yes2 rfl rfl g8) rfl (Gl (g := oD) 3025 (xs := ([(i6).Rate] : List Int)) (vs := [.int .i64 ((i6).Rate)]) Try.underlying31 Try.sizeOf3 Try.zeroValue3 rfl rfl (.cons rfl .nil) (RVs.cons (Zj.2 rfl) RVs.nil) rfl rfl fun uH sJ xH hs o239 yH hxt hfl => ?_);have hfr := hfr.stp hs;have l5 := l5.stp hs;have o0 := o0.stp hs;have b194 := b194.stp hs rfl;obtain ⟨cC, jH, h⟩ := Ga h;refine Ze (.yes2 rfl rfl g8) rfl (Zp (g := uH) (vs := [.int .i64 (0), .int .i64 (10000), xH]) en32 (.cons rfl (.cons rfl (.cons rfl .nil))) (wk32 yH jH) fun zH pI vJ hs hr => ?_);have hfr := hfr.ext hs;have l5 := l5.ext hs;have o0 := o0.ext hs;have b194 := b194.ext hs;subst hr;refine Zx (.bool (!cC)) (Wh rfl) rfl rfl g8 rfl ?_;refine Zw (.bool (!cC)) (Zl (b := (!n9)) rfl (Tq g8 rfl)) rfl ?_;refine Zb ?_;obtain rfl := sinj h;exact hQ _ _ ⟨zH, hfr, vB, l5, rfl, b194, yB, o0, aB, v8, rfl⟩
     ·clear hx
      obtain ⟨aI, hfr, eF, rF, sF, tF, uF, vF, zD, aE, zB⟩ := hR;rcases Zt h with ⟨vC, h⟩ | ⟨vC, h⟩
      ·refine Tv (Eq.trans (show ev _ _ = .bool (l8) from zB) (congrArg Value.bool vC)) ?_
       refine Zf (Za (Zg (.bool false) rfl rfl ?_));refine Zb (Zd (Gq (Tz ?_)));refine Wd ?_;refine Tz ?_;refine Tz ?_;refine Wd ?_;refine Tz ?_;obtain rfl := sinj h;exact Qr rfl rfl (show _ = .bool false from rfl) ⟨_, hfr, rfl⟩
      ·refine Tj (Eq.trans (show ev _ _ = .bool (l8) from zB) (congrArg Value.bool vC)) ?_
       exact Zu (Zd (cH () _ _ ⟨aI, hfr, eF, rF, sF, tF, uF, vF, zD, aE⟩ h))
    ·rintro _ qI xJ ⟨xF, hfr, yF, aG, bG, bD, cG, eG, bE, iE⟩ h
     refine Za (Zw (Gk l9 0) (Zc Lc bG (OB.ptr bD)) rfl ?_);refine Ze .plain rfl (Wz (g := xF) Yy.1 Try.isAgg3 Try.sizeOf3 rfl bD fun zJ bI => ?_);obtain rfl := Zj.1 bI;refine Gg (.int .i64 ((w64 ((i6).From + (1 : Int))))) rfl rfl rfl rfl ?_;refine Zg (.int .i64 ((w64 ((i6).From + (1 : Int))))) rfl rfl ?_;refine Zg (.int .i64 (1000)) rfl rfl ?_;exact Zb (Ts (Zd (aH ((w64 ((i6).From + (1 : Int))), (1000 : Int)) _ _ ⟨xF, hfr, yF, aG, rfl, rfl, cG, eG, bE, iE⟩ h)))
   ·rintro ⟨nB, oB⟩ sI aK ⟨dI, hfr, gG, iG, jG, kG, lG, mG, lE, mE⟩ h
    refine Za (Gg (.int .i64 ((w64 (t5 + (1 : Int))))) mE rfl rfl rfl ?_);refine Zn (.int .i64 ((w64 (t5 + (1 : Int))))) rfl rfl ?_;exact Zb (Zd (zG (nB, oB, (w64 (t5 + (1 : Int)))) _ _ ⟨dI, hfr, gG, iG, jG, kG, lG, mG, lE, rfl⟩ h))
  ·refine To uC rfl ?_
   refine Qc ?_;refine Tf ?_;refine Tf ?_;refine Tl ?_;exact Zd (yG () _ _ ⟨lD, hfr, vB, l5⟩ h)
 ·rintro _ jJ bK ⟨iI, hfr, sG, cD⟩ h
  refine Zf (Za (Zw (Gk p1 0) (Zc Ub sG (PT.ptr cD)) rfl ?_));have xG := Zm (Wg).1 cD;refine Zw (Gk (Gk p1 0) 0) (Zc Vg rfl (PT.ptr xG)) rfl ?_;have jI := Zm (Kf).1 xG;refine Ze .plain rfl (Gf (g := iI) Try.isAgg35 Try.sizeOf35 rfl jI fun cK kI => ?_);refine Zw (.int .i64 ((((x0).PayList).Rates).length : Int)) (Tu Try.underlying35 rfl kI) rfl ?_;refine Zw (.bool ((decide (((((x0).PayList).Rates).length : Int) > (0 : Int))))) (Gj rfl rfl rfl) rfl ?_;refine Zw (.bool ((decide (((((x0).PayList).Rates).length : Int) > (0 : Int))))) (Tb rfl) rfl ?_;refine Zb (Zd (Gq ?_));obtain rfl := sinj h;exact Qr rfl rfl (show _ = .bool ((decide (((((x0).PayList).Rates).length : Int) > (0 : Int)))) from rfl) ⟨_, hfr, rfl⟩
def f68 (x0 : List Int) : Option (Bool) :=
 (f32 ((0 : Int)) ((1000 : Int)) x0).bind fun y2 =>
 some (y2)
theorem en68 : Enters Try.prog 68 := enters_of Try.func68 (by kernel_rfl) rfl
theorem wk68 {gI : Gh} {wI : World} {x0 : List Int} {up0 : Value} (rp0 : RV gI.m wI x0 up0) {r : Bool} (h : f68 x0 = some r) : Fn Try.prog 68 #[up0] gI wI (fun _ _ v => v = .bool (r)) := by
 unfold f68 at h;refine Gw Try.func68 rfl (Nat.le_of_ble_eq_true rfl) fun g0 hm hfr => ?_;have rp0 : RV g0.m wI x0 up0 := hm ▸ rp0;show E _ 5 none _ _ _ _ _;refine Zf (Za (Zg (.bool false) rfl rfl ?_));refine Zb (Zd (Zf (Za (Zn up0 rfl rfl ?_))));obtain ⟨y2, hy2, h⟩ := Ga h;refine Ze .plain rfl (Zp (g := g0) (vs := [.int .i64 (0), .int .i64 (1000), up0]) en32 (.cons rfl (.cons rfl (.cons rfl .nil))) (wk32 rp0 hy2) fun g1 w1_ v1 hs hr => ?_);have hfr := hfr.ext hs;subst hr;refine Zg (.bool (y2)) rfl rfl ?_;refine Zb (Zd (Gq ?_));obtain rfl := sinj h;exact Qr rfl rfl (show _ = .bool (y2) from rfl) ⟨_, hfr, rfl⟩
end Go.Proofs.Ytlmibfohllgmeaa
