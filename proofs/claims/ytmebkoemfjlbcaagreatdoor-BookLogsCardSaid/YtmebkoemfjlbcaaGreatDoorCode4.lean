import Derived.Test.YtmebkoemfjlbcaaGreatDoorCode3
set_option maxRecDepth 8000
set_option maxHeartbeats 4000000
namespace Go.Proofs.YtmebkoemfjlbcaaGreatDoor
open Go.RowKit Tryz
theorem en116 : Enters prog 116 := enters_of func116 (by kernel_rfl) rfl
theorem it_ok : ItOk prog 116 1 := fun n h0 h1 w hT => Tryz.strconv_Itoa n h0 h1 w (Ct (by kernel_rfl) hT)
abbrev K7 := AnyV 3 9
theorem Sf (a : Addr) (w : World) : (Instr.fieldAt 133 (.pointer (some a)) 0).run prog w = .ok (.pointer (some (a.add 0))) w := by simp [Instr.fieldAt, run_underlying underlying133, Instr.sureAddr, fieldPlace, Result.andThen]
theorem P7 (a : Addr) (w : World) : (Instr.fieldAt 133 (.pointer (some a)) 1).run prog w = .ok (.pointer (some (a.add 2))) w := by simp [Instr.fieldAt, run_underlying underlying133, Instr.sureAddr, fieldPlace, Result.andThen]
theorem wcc {i : Nat} {g : Gh} {w : World} {b : Nat} {a v : Value} {n : Int} (hb : HBm i g w b (.cells #[a, v, Iz n] 133 (0, 0))) (ha : a = .pointer none ∨ a = .pointer (some ⟨b, 0, none⟩)) :
  Calls prog 140 #[.pointer (some ⟨b, 0, none⟩)] w fun r w' => ∃ u, r = .returned u ∧ Stp i g w g w' ∧ HBm i g w' b (.cells #[.pointer (some ⟨b, 0, none⟩), v, Iz n] 133 (0, 0)) ∧ ∀ k, k ≠ b → w'.heap[k]? = w.heap[k]? := by
 obtain ⟨jt, hj, hjs⟩ := Cf
 have hsh := hb.shape
 refine Qp func140 rfl (Nat.le_of_ble_eq_true rfl) ?_
 show E _ 20 none _ _ _ _ _
 refine Z5 (Zn (.pointer (some ⟨b, 0, none⟩)) rfl rfl (Zx (.pointer (some ⟨b, 0, none⟩)) (Z8 rfl) rfl (Zx (.pointer (some ⟨b, 0, none⟩)) (show Pur _ _ _ (Gc (.pointer (some ⟨b, 0, none⟩)) 0) from Zc Bw rfl ⟨b, 0, rfl⟩) rfl (Z4 rfl (Qu isAgg129 rfl (hb.cell.trans rfl) ?_)))))
 rcases ha with ha | ha
 ·subst ha
  refine Zx (.bool true) (Ku (u1 := .pointer none) (u2 := .pointer none) (.inl rfl) rfl rfl ⟨_, rfl⟩ ⟨_, rfl⟩ (fun w => by simpa using run_eql_pointer_nil (P := prog) w 129 none underlying129)) rfl (Z3 (Ta rfl (Za (Zn (.pointer (some ⟨b, 0, none⟩)) rfl rfl (Zn (.pointer (some ⟨b, 0, none⟩)) rfl rfl ?_)))))
  refine Xa (v := .pointer (some ⟨b, 0, none⟩)) (w' := w) .plain (fun _ h => by cases h) rfl (by
   have := Lib.run_to_unsafe w ⟨b, 0, none⟩ underlying129 underlying239 hj (by rw [hjs]; decide) hsh (by show 0 < 3; omega)
   show (Sem.run _ (execOp _ _) _) = _
   simp only [execOp, Sem.run_bind]
   rw [show ev _ (Operand.tmp 8) = Value.pointer (some ⟨b, 0, none⟩) from rfl, this]
   rfl) ?_
  refine Zx (.pointer (some ⟨b, 0, none⟩)) (Cd func170 (by kernel_rfl) (by kernel_rfl) (by kernel_rfl) (ex := Extern.AbiNoEscape.same) (by kernel_rfl) (.cons rfl .nil) (fun _ => rfl)) rfl ?_
  refine Xa (v := .pointer (some ⟨b, 0, none⟩)) (w' := w) .plain (fun _ h => by cases h) rfl (by
   have := Lib.run_from_unsafe w ⟨b, 0, none⟩ underlying239 underlying129 hj hsh (by kernel_rfl)
   show (Sem.run _ (execOp _ _) _) = _
   simp only [execOp, Sem.run_bind]
   rw [show ev _ (Operand.tmp 10) = Value.pointer (some ⟨b, 0, none⟩) from rfl, this]
   rfl) ?_
  refine Zx (.pointer (some ⟨b, 0, none⟩)) (Z8 rfl) rfl (Zx (.pointer (some ⟨b, 0, none⟩)) (show Pur _ _ _ (Gc (.pointer (some ⟨b, 0, none⟩)) 0) from Zc Bw rfl ⟨b, 0, rfl⟩) rfl (Z4 rfl (Kc (c := .pointer (some ⟨b, 0, none⟩)) sizeOf129 rfl rfl rfl (by simp) hb fun w1 hs hb1 hk => (Zb ?_))))
  exact Ho rfl rfl ⟨hs, hb1, hk⟩
 ·subst ha
  refine Zx (.bool false) (Ku (u1 := .pointer (some ⟨b, 0, none⟩)) (u2 := .pointer none) (.inl rfl) rfl rfl ⟨_, rfl⟩ ⟨_, rfl⟩ (fun w => by simpa using run_eql_pointer_nil (P := prog) w 129 (some ⟨b, 0, none⟩) underlying129)) rfl (Z3 (G1 rfl (Z5 (Zn (.pointer (some ⟨b, 0, none⟩)) rfl rfl (Zx (.pointer (some ⟨b, 0, none⟩)) (Z8 rfl) rfl (Zx (.pointer (some ⟨b, 0, none⟩)) (show Pur _ _ _ (Gc (.pointer (some ⟨b, 0, none⟩)) 0) from Zc Bw rfl ⟨b, 0, rfl⟩) rfl (Z4 rfl (Qu isAgg129 rfl (hb.cell.trans rfl) (Zn (.pointer (some ⟨b, 0, none⟩)) rfl rfl (Zx (.bool false) (Ku (.inr rfl) rfl rfl ⟨_, rfl⟩ ⟨_, rfl⟩ (fun w => Lib.run_neq_ptr_same w ⟨b, 0, none⟩ underlying129 hj)) rfl (Z3 (G1 rfl (Zu ?_)))))))))))))
  exact Ho rfl rfl ⟨Df _ _ _, hb, fun _ _ => rfl⟩
theorem wwb {i : Nat} {g : Gh} {w : World} {c : UInt8} {s : List UInt8 × Int} {r : List UInt8} {p : Value} (h : WR i g w 5 133 s p) (hr : apnd 1 s.1 [c] = some r) :
  Calls prog 101 #[p, .int .u8 c.toNat] w fun q w' => ∃ v, q = .returned v ∧ ∃ g', Stp i g w g' w' ∧ WR i g' w' 5 133 (r, s.2) p := by
 obtain ⟨b, a, v, rfl, hb, hz, hne, ha⟩ := h
 refine Qp func101 rfl (Nat.le_of_ble_eq_true rfl) ?_
 show E _ 17 none _ _ _ _ _
 refine Z5 (Zg .nilIface rfl rfl (Z3 (Z5 (Zn (.pointer (some ⟨b, 0, none⟩)) rfl rfl (Z4 rfl (Qg (vs := [.pointer (some ⟨b, 0, none⟩)]) en140 (.cons rfl .nil) (wcc hb ha) fun u w1 h1 => ?_))))))
 obtain ⟨hs1, hb1, hk1⟩ := h1
 have hz1 := hz.other hne hk1
 refine Z3 (Z5 (Zn (.pointer (some ⟨b, 0, none⟩)) rfl rfl (Zn (.pointer (some ⟨b, 0, none⟩)) rfl rfl (Zx (.pointer (some ⟨b, 0, none⟩)) (Z8 rfl) rfl (Zx (.pointer (some ⟨b, 1, none⟩)) (show Pur _ _ _ (Gc (.pointer (some ⟨b, 0, none⟩)) 1) from Zc U0 rfl ⟨b, 0, rfl⟩) rfl (Z4 rfl (Qu isAgg50 rfl (hb1.cell.trans rfl) (Zn (.int .u8 c.toNat) rfl rfl (Z4 rfl (Ga (g := g) 1 (xs := [c]) (vs := [.int .u8 c.toNat]) underlying50 sizeOf5 zeroValue5 rfl rfl (.cons rfl .nil) (RVs.cons (Tz.2 rfl) RVs.nil) rfl rfl fun g3 w3 v3 _ _ r3 hxt _ => ?_))))))))))
 have hb3 := hb1.ext hxt
 refine Z4 rfl (Fk (g := g3) underlying50 Yq rfl (hz1.ext hxt) rfl r3 hr fun g4 w4 v4 hs4 z4 ap4 => ?_)
 obtain ⟨hb4, hne4⟩ := hb3.apart ap4 hne
 refine Zx (.pointer (some ⟨b, 0, none⟩)) (Z8 rfl) rfl (Zx (.pointer (some ⟨b, 1, none⟩)) (show Pur _ _ _ (Gc (.pointer (some ⟨b, 0, none⟩)) 1) from Zc U0 rfl ⟨b, 0, rfl⟩) rfl (Z4 rfl (Kc (c := v4) sizeOf50 rfl rfl z4.one (by simp) hb4 fun w5 hs5 hb5 hk5 => (Z3 (Z5 (Zg .nilIface rfl rfl (Z3 ?_)))))))
 exact Z9 (G0 rfl rfl (rq .nilIface) ⟨g4, (hs1.trans (hxt.stp.trans (hs4.trans hs5))), b, _, v4, rfl, hb5, z4.other hne4 hk5, hne4, .inr rfl⟩)
theorem en115 : Enters prog 115 := enters_of func115 (by kernel_rfl) rfl
theorem wws {i : Nat} {g : Gh} {w : World} {c : Str} {s : List UInt8 × Int} {r : List UInt8} {p : Value} (h : WR i g w 5 133 s p) (hr : apnd 1 s.1 c.b = some r) :
  Calls prog 115 #[p, c.v] w fun q w' => ∃ v, q = .returned v ∧ ∃ g', Stp i g w g' w' ∧ WR i g' w' 5 133 (r, s.2) p := by
 obtain ⟨b, a, v, rfl, hb, hz, hne, ha⟩ := h
 refine Qp func115 rfl (Nat.le_of_ble_eq_true rfl) ?_
 show E _ 19 none _ _ _ _ _
 refine Z5 (Zg (Iz 0) rfl rfl (Zg .nilIface rfl rfl (Z3 (Z5 (Zn (.pointer (some ⟨b, 0, none⟩)) rfl rfl (Z4 rfl (Qg (vs := [.pointer (some ⟨b, 0, none⟩)]) en140 (.cons rfl .nil) (wcc hb ha) fun u w1 h1 => ?_)))))))
 obtain ⟨hs1, hb1, hk1⟩ := h1
 have hz1 := hz.other hne hk1
 refine Z3 (Z5 (Zn (.pointer (some ⟨b, 0, none⟩)) rfl rfl (Zn (.pointer (some ⟨b, 0, none⟩)) rfl rfl (Zx (.pointer (some ⟨b, 0, none⟩)) (Z8 rfl) rfl (Zx (.pointer (some ⟨b, 1, none⟩)) (show Pur _ _ _ (Gc (.pointer (some ⟨b, 0, none⟩)) 1) from Zc U0 rfl ⟨b, 0, rfl⟩) rfl (Z4 rfl (Qu isAgg50 rfl (hb1.cell.trans rfl) (Zn c.v rfl rfl (Z4 rfl (Fo (g := g) underlying50 underlying9 Yq rfl hz1 rfl hr fun g4 w4 v4 hs4 z4 ap4 => ?_))))))))))
 obtain ⟨hb4, hne4⟩ := hb1.apart ap4 hne
 refine Zx (.pointer (some ⟨b, 0, none⟩)) (Z8 rfl) rfl (Zx (.pointer (some ⟨b, 1, none⟩)) (show Pur _ _ _ (Gc (.pointer (some ⟨b, 0, none⟩)) 1) from Zc U0 rfl ⟨b, 0, rfl⟩) rfl (Z4 rfl (Kc (c := v4) sizeOf50 rfl rfl z4.one (by simp) hb4 fun w5 hs5 hb5 hk5 => (Z3 (Z5 (Zn c.v rfl rfl (Zx (Iz (c.b.length : Int)) (H8 underlying9 rfl) rfl (Zg (Iz (c.b.length : Int)) rfl rfl (Zg .nilIface rfl rfl (Z3 ?_))))))))))
 exact Z9 (J4 rfl rfl rfl rfl ⟨g4, (hs1.trans (hs4.trans hs5)), b, _, v4, rfl, hb5, z4.other hne4 hk5, hne4, .inr rfl⟩)
theorem wst {i : Nat} {g : Gh} {w : World} {s : List UInt8 × Int} {p : Value} (h : WR i g w 5 133 s p) (h0 : s.1 ≠ []) :
  Calls prog 71 #[p] w fun q w' => ∃ v, q = .returned v ∧ v = Str.v ⟨s.1⟩ ∧ (∀ bk, p = .pointer (some ⟨bk, 0, none⟩) → w'.heap[bk]? = w.heap[bk]?) ∧ ∃ g', Stp i g w g' w' ∧ WR i g' w' 5 133 s p := by
 obtain ⟨b, a, v, rfl, hb, hz, hne, ha⟩ := h
 obtain ⟨sa, c, rfl, hc, _⟩ := hz.hdr
 have hcn : c ≠ 0 := by
  have : 0 < s.1.length := by cases hs : s.1 with
   | nil => exact absurd hs h0
   | cons _ _ => simp
  omega
 have hl := Jo isAgg50 hb (o := 1) (c := .slice sa s.1.length c) rfl
 refine Qp func71 rfl (Nat.le_of_ble_eq_true rfl) ?_
 show E _ 14 none _ _ _ _ _
 refine Z5 (Zg (Str.v ⟨[]⟩) rfl rfl (Z3 (Zf (T6 (g := g) (n := 10) [] [0, 1, 2, 3, 4, 5, 6, 7, 8, 9] rfl J3 (by kernel_rfl) trivial (Yx (c := .pointer (some ⟨b, 0, none⟩)) rfl rfl .plain (fun _ _ hd => Zk rfl) (Yx (c := .pointer (some ⟨b, 0, none⟩)) rfl rfl .plain (fun _ _ hd => Z8 rfl) (Yx (c := .pointer (some ⟨b, 1, none⟩)) rfl rfl .plain (fun _ _ hd => show Pur _ _ _ (Gc (.pointer (some ⟨b, 0, none⟩)) 1) from Zc U0 rfl ⟨b, 0, rfl⟩) (Ti (c := .slice sa s.1.length c) rfl rfl .plain (fun _ _ h => ⟨h.ch, fun b hb _ => h.below.block b hb⟩) (hl _) rfl (Yx (c := .pointer sa) rfl rfl .plain (fun _ _ hd => Xn (a := sa) (n := s.1.length) (c := c) rfl (.inl hcn)) (Yx (c := .pointer (some ⟨b, 0, none⟩)) rfl rfl .plain (fun _ _ hd => Zk rfl) (Yx (c := .pointer (some ⟨b, 0, none⟩)) rfl rfl .plain (fun _ _ hd => Z8 rfl) (Yx (c := .pointer (some ⟨b, 1, none⟩)) rfl rfl .plain (fun _ _ hd => show Pur _ _ _ (Gc (.pointer (some ⟨b, 0, none⟩)) 1) from Zc U0 rfl ⟨b, 0, rfl⟩) (Ti (c := .slice sa s.1.length c) rfl rfl .plain (fun _ _ h => ⟨h.ch, fun b hb _ => h.below.block b hb⟩) (hl _) rfl (Yx (c := Iz (s.1.length : Int)) rfl rfl .plain (fun _ _ hd => Dn (v := .slice sa s.1.length c) underlying50 rfl ⟨_, _, rfl⟩) (Y7 fun g1 w1 hall => ?_)))))))))))))))
 have hs := hall.1
 refine Z4 rfl (Xr (g := g1) (i := i) (et := 5) rfl underlying191 (by kernel_rfl) h0 rfl rfl (hz.ext hs) fun w2 hs2 z2 ap2 => ?_)
 obtain ⟨hb2, hne2⟩ := (hb.ext hs).apart ap2 hne
 refine Zg (Str.v ⟨s.1⟩) rfl rfl (Z3 ?_)
 exact Z9 (G0 rfl rfl (rq (Str.v ⟨s.1⟩)) ⟨rfl, fun bk hbk => by injection hbk with hbk; injection hbk with hbk; injection hbk with hbk _; subst hbk; exact hb2.2.2.trans hb.2.2.symm, g1, hs.stp.trans hs2, b, a, _, rfl, hb2, z2, hne2, ha⟩)
def anyS : K7 → Option Str
 | .str s => some s
 | .int n => Se n
def f68 (x0 : List UInt8 × Int) (x1 : List K7) : Option (List UInt8 × Int) :=
 Option.bind (α := List UInt8) (lp (σ := List UInt8 × Int) (fun k s => bif decide (s.2 < (x1.length : Int)) then (idx x1 s.2).bind fun a => Option.bind (α := List UInt8) (bif decide (s.2 > (0 : Int)) then apnd 1 s.1 [32] else some s.1) fun b => (anyS a).bind fun t => (apnd 1 b t.b).bind fun c => k (c, w64 (s.2 + (1 : Int))) else some s.1) big (x0.1, 0)) fun b =>
 (apnd 1 b [10]).bind fun c => some (c, w64 (x0.2 + (1 : Int)))
theorem en68 : Enters prog 68 := enters_of func68 (by kernel_rfl) rfl
theorem wk68 {i : Nat} {g : Gh} {w : World} {s s' : List UInt8 × Int} {ws : List K7} {p u : Value} (hT : Uw 1 g.m w) (h : WR i g w 5 133 s p) (hu : RV g.m w ws u) (hf : f68 s ws = some s') :
  Calls prog 68 #[p, u] w fun q w' => ∃ v, q = .returned v ∧ ∃ g', Stp i g w g' w' ∧ WR i g' w' 5 133 s' p := by
 unfold f68 at hf
 obtain ⟨b0, hl, hf⟩ := Z1 hf
 obtain ⟨bk, rfl⟩ : ∃ b, p = .pointer (some ⟨b, 0, none⟩) := by obtain ⟨b, _, _, hh, _⟩ := h; exact ⟨b, hh⟩
 refine Qp func68 rfl (Nat.le_of_ble_eq_true rfl) ?_
 show E _ 51 none _ _ _ _ _
 refine Kl (fun e ds w' => ds = [] ∧ e 0 = .pointer (some ⟨bk, 0, none⟩) ∧ ∃ g', Stp i g w g' w' ∧ WR i g' w' 5 133 (b0, s.2) (.pointer (some ⟨bk, 0, none⟩))) (fun Q' hQ => ?_) (fun e ds w' hR => ?_)
 ·refine Z5 (Zn u rfl rfl (Zx (Iz (ws.length : Int)) (G3 (v := u) underlying135 rfl hu) rfl (Zn (Iz 0) rfl rfl (Z3 (Zr (Vt hl (fun (t : List UInt8 × Int) e ds w' => ds = [] ∧ e 0 = .pointer (some ⟨bk, 0, none⟩) ∧ e 8 = u ∧ e 9 = Iz (ws.length : Int) ∧ e 10 = Iz t.2 ∧ ∃ g', Stp i g w g' w' ∧ WR i g' w' 5 133 (t.1, s.2) (.pointer (some ⟨bk, 0, none⟩))) ⟨rfl, rfl, rfl, rfl, rfl, g, Df _ _ _, h⟩ (fun X rec hrec => ?_)))))))
  rintro ⟨xs, n⟩ e ds w1 ⟨rfl, e0, e8, e9, e10, g1, hs, hwr⟩ hk
  refine Z5 (Gd (.bool (decide (n < (ws.length : Int)))) e10 e9 rfl rfl (Z3 ?_))
  rcases Zt hk with ⟨hc, hk⟩ | ⟨hc, hk⟩
  ·refine Zf (Gx hc rfl (Zu (Zd ?_)))
   obtain ⟨a, ha, hk⟩ := Z1 hk
   obtain ⟨bb, hbb, hk⟩ := Z1 hk
   obtain ⟨tx, htx, hk⟩ := Z1 hk
   obtain ⟨cc, hcc, hk⟩ := Z1 hk
   have hu1 := hu.ch hs.ch
   have hT1 := hT.ch hs.ch
   refine Kl (fun e ds w' => ds = [] ∧ e 0 = .pointer (some ⟨bk, 0, none⟩) ∧ e 8 = u ∧ e 9 = Iz (ws.length : Int) ∧ e 10 = Iz n ∧ ∃ g', Stp i g w g' w' ∧ WR i g' w' 5 133 (cc, s.2) (.pointer (some ⟨bk, 0, none⟩))) (fun Q' hQ => ?_) (fun e2 ds2 w2 hR => ?_)
   ·refine Zr (Z5 (Zn (Iz n) e10 rfl (Zx (Gq u n 1) (Zh (α := K7) underlying135 sizeOf20 e8 hu1 e10 ha) rfl (Z4 rfl (Z7 (g := g1) isAgg20 sizeOf20 rfl (Gn hu1 ha) fun va ra => ?_)))))
    obtain rfl := Hh.1 ra
    refine Zg (Iz n) rfl rfl (Zg a.v rfl rfl (Z3 (Kl (fun e ds w' => ds = [] ∧ e 0 = .pointer (some ⟨bk, 0, none⟩) ∧ e 5 = a.v ∧ e 8 = u ∧ e 9 = Iz (ws.length : Int) ∧ e 10 = Iz n ∧ ∃ g', Stp i g w g' w' ∧ WR i g' w' 5 133 (bb, s.2) (.pointer (some ⟨bk, 0, none⟩))) (fun Q2 hQ2 => ?_) (fun e3 ds3 w3 hR3 => ?_))))
    ·refine Z5 (Zn (Iz n) rfl rfl (Gd (.bool (decide (n > (0 : Int)))) rfl rfl rfl rfl (Z3 ?_)))
     rcases Zt hbb with ⟨hc2, hbb⟩ | ⟨hc2, hbb⟩
     ·refine Gx hc2 rfl (Za (Zo e0 rfl (Zx (.pointer (some ⟨bk, 0, none⟩)) (Z8 rfl) rfl (Zx (.pointer (some ⟨bk, 0, none⟩)) (show Pur _ _ _ (Gc (.pointer (some ⟨bk, 0, none⟩)) 0) from Zc Sf rfl ⟨bk, 0, rfl⟩) rfl (Z4 rfl (Qg (vs := [.pointer (some ⟨bk, 0, none⟩), .int .u8 (32 : UInt8).toNat]) en101 (.cons rfl (.cons rfl .nil)) (wwb (c := 32) hwr hbb) fun q4 w4 h4 => ?_))))))
      obtain ⟨g4, hs4, hwr4⟩ := h4
      exact Zb (hQ2 _ _ _ ⟨rfl, e0, rfl, e8, e9, e10, g4, hs.trans hs4, hwr4⟩)
     ·obtain rfl := sinj hbb
      exact Gy hc2 rfl (Zu (hQ2 _ _ _ ⟨rfl, e0, rfl, e8, e9, e10, g1, hs, hwr⟩))
    ·obtain ⟨rfl, e0, e5, e8, e9, e10, g3, hs3, hwr3⟩ := hR3
     have hT3 := hT.ch hs3.ch
     refine Z5 (Zo e5 rfl (Z3 (Zr (Z5 ?_))))
     cases a with
     | str tt =>
      obtain rfl := sinj htx
      refine Zx (.tuple #[tt.v, .bool true]) (Nc (ti := 3) underlying9 rfl) rfl (Zx (.bool true) (Zi rfl rfl) rfl (Zx tt.v (Zi rfl rfl) rfl (Z3 (Ta rfl (Z5 (Zg tt.v rfl rfl (Z3 (Za (Zo e0 rfl (Zx (.pointer (some ⟨bk, 0, none⟩)) (Z8 rfl) rfl (Zx (.pointer (some ⟨bk, 0, none⟩)) (show Pur _ _ _ (Gc (.pointer (some ⟨bk, 0, none⟩)) 0) from Zc Sf rfl ⟨bk, 0, rfl⟩) rfl (Zn tt.v rfl rfl (Z4 rfl (Qg (vs := [.pointer (some ⟨bk, 0, none⟩), tt.v]) en115 (.cons rfl (.cons rfl .nil)) (wws hwr3 hcc) fun q4 w4 h4 => ?_))))))))))))))
      obtain ⟨g4, hs4, hwr4⟩ := h4
      exact Zb (Th (hQ _ _ _ ⟨rfl, e0, e8, e9, e10, g4, hs3.trans hs4, hwr4⟩))
     | int nn =>
      refine Zx (.tuple #[_, .bool false]) (Mo (ti := 3) underlying9 rfl zeroValue9 rfl) rfl (Zx (.bool false) (Zi rfl rfl) rfl (Zx _ (Zi rfl rfl) rfl (Z3 (G1 rfl (Z5 (Zx (.tuple #[Iz nn, .bool true]) (Nx (ts := 9) underlying3 rfl) rfl (Zx (.bool true) (Zi rfl rfl) rfl (Zx (Iz nn) (Zi rfl rfl) rfl (Z3 (Ta rfl (Z5 (Zg (Iz nn) rfl rfl (Z3 (Qk (g := g3) (n := 6) [0, 1, 2, 3] [] [0, 1, 2, 3, 4, 5] rfl J3 (by kernel_rfl) fun w_c hx hlt => ?_))))))))))))))
      have hwr4 := hwr3.ext hx
      have hT4 := hT3.ext hx
      refine Z6 (c := .pointer (some ⟨bk, 0, none⟩)) rfl rfl .plain (Zk e0) (Z6 (c := .pointer (some ⟨bk, 0, none⟩)) rfl rfl .plain (Z8 rfl) (Z6 (c := .pointer (some ⟨bk, 0, none⟩)) rfl rfl .plain (show Pur _ _ _ (Gc (.pointer (some ⟨bk, 0, none⟩)) 0) from Zc Sf rfl ⟨bk, 0, rfl⟩) (Z6 (c := Iz nn) rfl rfl .plain (Zk rfl) (W7 rfl rfl .plain (D_itoa (g := g3) en116 it_ok hT4 rfl htx fun w5 hx5 => ?_)))))
      have hwr5 := hwr4.ext hx5
      have hlt5 := hlt.ext hx5
      refine ⟨hlt5.toW, ?_⟩
      refine W7 rfl rfl .plain (Qg (vs := [.pointer (some ⟨bk, 0, none⟩), tx.v]) en115 (.cons rfl (.cons rfl .nil)) (wws hwr5 hcc) fun q6 w6 h6 => ?_)
      obtain ⟨g6, hs6, hwr6⟩ := h6
      refine ⟨(hlt5.stp hs6 rfl).toW, ?_⟩
      refine Q7 (Zb (Th ?_))
      exact hQ _ _ _ ⟨rfl, e0, e8, e9, e10, g6, hs3.trans (hx.stp.trans (hx5.stp.trans hs6)), hwr6⟩
   ·obtain ⟨rfl, e0, e8, e9, e10, g2, hs2, hwr2⟩ := hR
    refine Za (Gd (Iz (w64 (n + (1 : Int)))) e10 rfl rfl rfl (Zn (Iz (w64 (n + (1 : Int)))) rfl rfl ?_))
    exact Z3 (hrec (cc, w64 (n + 1)) _ _ _ ⟨rfl, e0, e8, e9, rfl, g2, hs2, hwr2⟩ hk)
  ·refine Zf (Gy hc rfl (Tu (G5 (G5 (Tf ?_)))))
   obtain rfl := sinj hk
   exact hQ _ _ _ ⟨rfl, e0, g1, hs, hwr⟩
 ·obtain ⟨rfl, e0, g1, hs, hwr⟩ := hR
  obtain ⟨c0, hc0, hf⟩ := Z1 hf
  obtain rfl := sinj hf
  refine Z5 (Zo e0 rfl (Zx (.pointer (some ⟨bk, 0, none⟩)) (Z8 rfl) rfl (Zx (.pointer (some ⟨bk, 0, none⟩)) (show Pur _ _ _ (Gc (.pointer (some ⟨bk, 0, none⟩)) 0) from Zc Sf rfl ⟨bk, 0, rfl⟩) rfl (Z4 rfl (Qg (vs := [.pointer (some ⟨bk, 0, none⟩), .int .u8 (10 : UInt8).toNat]) en101 (.cons rfl (.cons rfl .nil)) (wwb (c := 10) hwr hc0) fun q4 w4 h4 => ?_)))))
  obtain ⟨g4, hs4, hwr4⟩ := h4
  refine Z3 (Za (Zo e0 rfl (Zx (.pointer (some ⟨bk, 0, none⟩)) (Z8 rfl) rfl (Zx (.pointer (some ⟨bk, 2, none⟩)) (show Pur _ _ _ (Gc (.pointer (some ⟨bk, 0, none⟩)) 2) from Zc P7 rfl ⟨bk, 0, rfl⟩) rfl ?_))))
  obtain ⟨b, a, v, hp, hb, hz, hne, ha⟩ := hwr4
  injection hp with hp; injection hp with hp; injection hp with hp _
  subst hp
  refine Z4 rfl (Qu isAgg3 rfl (hb.cell.trans rfl) (Gd (Iz (w64 (s.2 + (1 : Int)))) rfl rfl rfl rfl (Zx (.pointer (some ⟨bk, 0, none⟩)) (Z8 rfl) rfl (Zx (.pointer (some ⟨bk, 2, none⟩)) (show Pur _ _ _ (Gc (.pointer (some ⟨bk, 0, none⟩)) 2) from Zc P7 rfl ⟨bk, 0, rfl⟩) rfl (Z4 rfl (Kc (c := Iz (w64 (s.2 + (1 : Int)))) sizeOf3 rfl rfl rfl (by simp) hb fun w5 hs5 hb5 hk5 => (Zb ?_)))))))
  exact Ho rfl rfl ⟨g4, hs.trans (hs4.trans hs5), bk, a, v, rfl, hb5, hz.other hne hk5, hne, ha⟩
def f69 (x0 : List UInt8 × Int) (c : Gb) (n : Int) : Option (List UInt8 × Int) :=
 (f55 c.Row n).bind fun t => f68 x0 [.str ⟨bif c.Turned then [116, 117, 114, 110, 101, 100] else [99, 97, 114, 100]⟩, bif decide (c.Number = -1) then .str ⟨[63]⟩ else .int c.Number, .str t]
theorem en69 : Enters prog 69 := enters_of func69 (by kernel_rfl) rfl
theorem wk69 {i : Nat} {g : Gh} {w : World} {s s' : List UInt8 × Int} {c : Gb} {n : Int} {p u : Value} (hT : Uw 1 g.m w) (h : WR i g w 5 133 s p) (hu : RV g.m w c u) (hf : f69 s c n = some s') :
  Calls prog 69 #[p, u, Iz n] w fun q w' => ∃ v, q = .returned v ∧ ∃ g', Stp i g w g' w' ∧ WR i g' w' 5 133 s' p := by
 unfold f69 at hf
 obtain ⟨tx, htx, hf⟩ := Z1 hf
 refine Qp func69 rfl (Nat.le_of_ble_eq_true rfl) ?_
 show E _ 28 none _ _ _ _ _
 refine Z5 (Z4 rfl (T1 (g := g) rfl hu fun g1 w1 p1 hx1 q1 => ?_))
 have h1 := h.ext hx1
 have hT1 := hT.ext hx1
 refine Z3 (Kl (fun e ds w' => ds = [] ∧ e 0 = p ∧ e 2 = Iz n ∧ e 4 = p1 ∧ e 6 = Str.v ⟨[99, 97, 114, 100]⟩ ∧ e 7 = (AnyV.int c.Number : K7).v ∧ ∃ g', Ext g1 w1 g' w') (fun Q' hQ => ?_) (fun e ds w' hR => ?_))
 ·refine Zs (x := .tmp 8) isAgg3 sizeOf3 (Zm K4.1 q1) fun vN rN hlN => ?_
  obtain rfl := Zj.1 rN
  refine T6 (g := g1) (n := 5) [] [0, 1, 2, 3, 4] rfl J3 (by kernel_rfl) trivial (Z0 (Gc p1 0) rfl rfl (Zc Dd rfl (PT.ptr q1)) (Ti (c := Iz c.Number) rfl rfl .plain (fun _ _ h => h.ch) hlN rfl (Z0 (AnyV.int c.Number : K7).v rfl rfl (Ye underlying3 rfl) (Z0 (Str.v ⟨[99, 97, 114, 100]⟩) rfl rfl (Tv rfl) (Z0 (AnyV.int c.Number : K7).v rfl rfl (Tv rfl) (Jd fun g2 w2 hs => ?_))))))
  exact Zb (hQ _ _ _ ⟨rfl, rfl, rfl, rfl, rfl, rfl, g2, hs⟩)
 obtain ⟨rfl, e0, e2, e4, e6, e7, g2, hx2⟩ := hR
 have h2 := h1.ext hx2
 have hT2 := hT1.ext hx2
 have q2 := q1.ext hx2
 refine Kl (fun e ds w' => ds = [] ∧ e 0 = p ∧ e 2 = Iz n ∧ e 4 = p1 ∧ e 6 = Str.v ⟨bif c.Turned then [116, 117, 114, 110, 101, 100] else [99, 97, 114, 100]⟩ ∧ e 7 = (AnyV.int c.Number : K7).v ∧ ∃ g', Ext g1 w1 g' w') (fun Q' hQ => ?_) (fun e ds w' hR => ?_)
 ·refine Z5 (Zx (Gc p1 2) (Zc Lv e4 (PT.ptr q2)) rfl (Z4 rfl (Z7 (g := g2) isAgg4 sizeOf4 rfl (Zm Yi.1 q2) fun v r => ?_)))
  obtain rfl := Wl.1 r
  refine Z3 ?_
  rcases Bool.eq_false_or_eq_true c.Turned with hb | hb
  ·refine Gx hb rfl (Za (Zg (Str.v ⟨[116, 117, 114, 110, 101, 100]⟩) rfl rfl ?_))
   exact Zb (hQ _ _ _ ⟨rfl, e0, e2, e4, by simp only [hb, cond_true]; rfl, e7, g2, hx2⟩)
  ·exact Gy hb rfl (Zu (hQ _ _ _ ⟨rfl, e0, e2, e4, by simp only [hb, cond_false]; exact e6, e7, g2, hx2⟩))
 clear e0 e2 e4 e6 e7
 obtain ⟨rfl, e0, e2, e4, e6, e7, g2, hx2⟩ := hR
 have h2 := h1.ext hx2
 have hT2 := hT1.ext hx2
 have q2 := q1.ext hx2
 refine Kl (fun e ds w' => ds = [] ∧ e 0 = p ∧ e 2 = Iz n ∧ e 4 = p1 ∧ e 6 = Str.v ⟨bif c.Turned then [116, 117, 114, 110, 101, 100] else [99, 97, 114, 100]⟩ ∧ e 7 = (bif decide (c.Number = -1) then AnyV.str ⟨[63]⟩ else AnyV.int c.Number : K7).v ∧ ∃ g', Ext g1 w1 g' w') (fun Q' hQ => ?_) (fun e ds w' hR => ?_)
 ·refine Z5 (Zx (Gc p1 0) (Zc Dd e4 (PT.ptr q2)) rfl (Z4 rfl (Z7 (g := g2) isAgg3 sizeOf3 rfl (Zm K4.1 q2) fun v r => ?_)))
  obtain rfl := Zj.1 r
  refine Gd (.bool (decide (c.Number = -1))) rfl rfl rfl rfl (Z3 ?_)
  rcases Bool.eq_false_or_eq_true (decide (c.Number = -1)) with hb | hb
  ·refine Gx hb rfl (Za (Zx (AnyV.str ⟨[63]⟩ : K7).v (Ht underlying9 rfl) rfl (Zg (AnyV.str ⟨[63]⟩ : K7).v rfl rfl ?_)))
   exact Zb (hQ _ _ _ ⟨rfl, e0, e2, e4, e6, by simp only [hb, cond_true]; rfl, g2, hx2⟩)
  ·exact Gy hb rfl (Zu (hQ _ _ _ ⟨rfl, e0, e2, e4, e6, by simp only [hb, cond_false]; exact e7, g2, hx2⟩))
 clear e0 e2 e4 e6 e7
 obtain ⟨rfl, e0, e2, e4, e6, e7, g2, hx2⟩ := hR
 have h2 := h1.ext hx2
 have hT2 := hT1.ext hx2
 have q2 := q1.ext hx2
 refine Za (Zo e0 rfl (Zo e6 rfl (Zx (AnyV.str _ : K7).v (Ht underlying9 rfl) rfl (Zo e7 rfl (Zx (Gc p1 1) (Zc Vs e4 (PT.ptr q2)) rfl (Z4 rfl (Z7 (g := g2) isAgg3 sizeOf3 rfl (Zm W4.1 q2) fun v r => ?_)))))))
 obtain rfl := Zj.1 r
 refine Zo e2 rfl (Z4 rfl (Zp (g := g2) (vs := [Iz c.Row, Iz n]) en55 (.cons rfl (.cons rfl .nil)) (wk55 htx) fun g3 w3 v3 hx3 hv3 => ?_))
 subst hv3
 have h3 := h2.ext hx3
 have hT3 := hT2.ext hx3
 refine Zx (AnyV.str tx : K7).v (Ht underlying9 rfl) rfl (Z4 rfl (Ga (g := g3) 1 (xs := ([.str ⟨bif c.Turned then [116, 117, 114, 110, 101, 100] else [99, 97, 114, 100]⟩, bif decide (c.Number = -1) then .str ⟨[63]⟩ else .int c.Number, .str tx] : List K7)) (vs := [_, _, _]) underlying135 sizeOf20 zeroValue20 rfl rfl (.cons rfl (.cons rfl (.cons rfl .nil))) (RVs.cons (Hh.2 rfl) (RVs.cons (Hh.2 rfl) (RVs.cons (Hh.2 rfl) RVs.nil))) rfl rfl fun g4 w4 v4 _ _ r4 hx4 _ => (Z4 rfl (Qg (vs := [p, v4]) en68 (.cons rfl (.cons rfl .nil)) (wk68 (hT3.ext hx4) (h3.ext hx4) r4 hf) fun q5 w5 h5 => ?_))))
 obtain ⟨g5, hs5, h5⟩ := h5
 refine Zb ?_
 exact Ho rfl rfl ⟨g5, hx1.stp.trans (hx2.stp.trans (hx3.stp.trans (hx4.stp.trans hs5))), h5⟩
theorem D_boxW {P : Program} {e : Env} {g : Gh} {w : World} {K : Value → World → Prop} (i : Nat) {et T : TypeId} {x : Operand} {v : Value} (hx : ev e x = v) (hv : v.cells = #[.pointer none, .slice none 0 0, Iz 0])
  (h : ∀ g' w' b, Stp i g w g' w' → WR i g' w' et T ([], 0) (.pointer (some ⟨b, 0, none⟩)) → K (.pointer (some ⟨b, 0, none⟩)) w') : Doe P (.box T x) e w K := fun d ty pos af gd => by
 have hrun : (execOp (ev e) ⟨d, .box T x, ty, pos, af, gd⟩).run P w = .ok (.value (.pointer (some ⟨w.heap.size, 0, none⟩))) (w.alloc (.cells v.cells T)) := by
  simp [execOp, hx, Instr.box, newVar, newRow, Result.andThen]
 unfold doE; rw [hrun]
 refine h _ _ w.heap.size (Hs i g w _ T 0) ⟨_, _, _, rfl, ⟨Tj _ _ _, Tj _ _ _, ?_⟩, OZ.nil, (fun h => by cases h), .inl rfl⟩
 rw [Wd, hv]
theorem Fg {w0 w1 : World} {g g1 : Gh} {bk : Nat} (hbk : g.o bk = 1) (hs : Stp 1 g w0 g1 w1) (hb : w1.heap[bk]? = w0.heap[bk]?) : LTg [7] { m := g.m, o := fun b => if b = bk then 7 else g.o b } w0 { m := g1.m, o := fun b => if b = bk then 7 else g1.o b } w1 := by
 refine ⟨hs.ch, fun b hlt hu => ?_⟩;by_cases h : b = bk
 ·subst h; exact ⟨hb, by simp⟩
 ·have h7 : g.o b = 7 := by simpa [h] using hu
  have hne : g.o b ≠ 1 := by rw [h7]; decide
  exact ⟨hs.block b hlt hne, by simp [h, hs.o b hlt hne]⟩
theorem Ar : (prog.info? 20).map (fun i => (i.zero, i.size, i.bytes)) = some (some .nilIface, 1, 16) := by kernel_rfl
theorem Am : T5 prog 133 = some ([.pointer none, .slice none 0 0, Iz 0], [(0, 2), (2, 1)]) := by kernel_rfl
def O6 (t : Gs) : Option (List K7) :=
 lp (σ := List K7 × Int) (fun k z => bif decide (z.2 < (t.Harness.Warps.length : Int)) then (idx t.Harness.Warps z.2).bind fun a => (apnd 16 z.1 [AnyV.int a]).bind fun y => k (y, w64 (z.2 + (1 : Int))) else some z.1) big ([.str ⟨[116, 105, 101]⟩, .str t.Name, .int t.Harness.Hooks], 0)
def Oz (m : Gg) (s : List UInt8 × Int) : Option (List UInt8 × Int) :=
 lp (σ := (List UInt8 × Int) × Int) (fun k z => bif decide (z.2 < (m.Ties.length : Int)) then (idx m.Ties z.2).bind fun a => (O6 a).bind fun ws => (f68 z.1 ws).bind fun y => k (y, w64 (z.2 + (1 : Int))) else some z.1) big (s, 0)
def Pz (c : Gi) (s : List UInt8 × Int) : Option (List UInt8 × Int) :=
 lp (σ := (List UInt8 × Int) × Int) (fun k z => bif decide (z.2 < (c.Chain.Cards.length : Int)) then (idx c.Chain.Cards z.2).bind fun a => (f69 z.1 a c.Chain.Hooks).bind fun y => k (y, w64 (z.2 + (1 : Int))) else some z.1) big (s, 0)
def Ld (m : Gg) (s : List UInt8 × Int) : Option (List UInt8 × Int) :=
 lp (σ := (List UInt8 × Int) × Int) (fun k z => bif decide (z.2 < (m.Chains.length : Int)) then (idx m.Chains z.2).bind fun a => (f68 z.1 [.str ⟨[99, 104, 97, 105, 110]⟩, .str a.Name, .int a.Chain.Hooks]).bind fun s1 => (Pz a s1).bind fun y => k (y, w64 (z.2 + (1 : Int))) else some z.1) big (s, 0)
def f23 (m : Gg) : Option (Str × Int) :=
 (f67 m).bind fun ck => bif !decide (ck = 0) then some (⟨[]⟩, ck) else
 (f68 ([], 0) [.str ⟨[109, 105, 108, 108]⟩]).bind fun s0 => (Oz m s0).bind fun s1 => (Ld m s1).bind fun s2 =>
 bif s2.1.isEmpty then none else (f70 ⟨s2.1⟩).bind fun sm => (f68 s2 [.str ⟨[101, 110, 100]⟩, .int s2.2, .int sm]).bind fun s3 =>
 bif s3.1.isEmpty then none else some (⟨s3.1⟩, 0)
theorem nemp {s : List UInt8} (h : s.isEmpty = false) : s ≠ [] := fun h0 => by subst h0; cases h
theorem en23 : Enters prog 23 := enters_of func23 (by kernel_rfl) rfl
theorem wk23 {gI : Gh} {wI : World} {x0 : Gg} {up0 : Value} (hTI : Uw 1 gI.m wI) (rp0 : RV gI.m wI x0 up0) {r : Str × Int} (h : f23 x0 = some r) : Fn prog 23 #[up0] gI wI (fun _ _ v => ∃ y0 y1, v = .tuple #[y0, y1] ∧ y0 = Str.v r.1 ∧ y1 = Iz r.2) := by
 unfold f23 at h;refine fnE func23 rfl rfl fun g0 hm hfr => ?_;have rp0 := RVc hm rp0;have hT0 : Uw 1 g0.m wI := hm ▸ hTI;show E _ 113 none _ _ _ _ _;refine Z5 (Z4 rfl (T1 (g := g0) rfl rp0 fun g1 w1 p1 hx1 q1 => ?_));have hfr := hfr.ext hx1;have hT1 := hT0.ext hx1;refine Zg (Str.v ⟨[]⟩) rfl rfl (Zg (Iz 0) rfl rfl (Z3 (Zf (Z5 (Z4 rfl (Z7 (g := g1) isAgg39 sizeOf39 rfl q1 fun vm rm => ?_))))));obtain ⟨ck, hck, h⟩ := Z1 h;refine Z4 rfl (Zp (g := g1) (vs := [vm]) en67 (.cons rfl .nil) (wk67 rm hck) fun g2 w2 v2 hx2 hv2 => ?_);subst hv2;have hfr := hfr.ext hx2;have hT2 := hT1.ext hx2;have q2 := q1.ext hx2;refine Zg (Iz ck) rfl rfl (Z3 (Z5 (Zn (Iz ck) rfl rfl (Gd (.bool (!decide (ck = 0))) rfl rfl rfl rfl (Z3 ?_)))));rcases Zt h with ⟨hc, h⟩ | ⟨hc, h⟩
 ·refine Gx hc rfl (Z5 (Zn (Iz ck) rfl rfl (Zg (Str.v ⟨[]⟩) rfl rfl (Zg (Iz ck) rfl rfl (Z3 (Z9 (Gf ?_)))))))
  obtain rfl := sinj h;exact J4 rfl rfl rfl rfl ⟨_, hfr, _, _, rfl, rfl, rfl⟩
 refine Gy hc rfl (Zu (Zd ?_));obtain ⟨s0, hs0, h⟩ := Z1 h;obtain ⟨s1, hs1, h⟩ := Z1 h;obtain ⟨s2, hs2, h⟩ := Z1 h;refine Z5 (Zx (.agg #[.pointer none, .slice none 0 0, Iz 0]) (show Pur _ _ _ (.agg #[.pointer none, .slice none 0 0, Iz 0]) from T7 (vs := []) [[.pointer none, .slice none 0 0], [Iz 0]] Am rfl rfl .nil trivial) rfl (Z4 rfl (D_boxW (g := g2) 1 (et := 5) rfl rfl fun g3 w3 bk hx3 hw3 => ?_)));have hfr := hfr.stp hx3;have hT3 := hT2.stp hx3;have q3 := q2.stp hx3;refine Zg (.pointer (some ⟨bk, 0, none⟩)) rfl rfl (Z3 (Z5 (Zn (.pointer (some ⟨bk, 0, none⟩)) rfl rfl (Zx (AnyV.str ⟨[109, 105, 108, 108]⟩ : K7).v (Ht underlying9 rfl) rfl (Z4 rfl (Ga (g := g3) 3 (xs := ([.str ⟨[109, 105, 108, 108]⟩] : List K7)) (vs := [_]) underlying135 sizeOf20 zeroValue20 rfl rfl (.cons rfl .nil) (RVs.cons (Hh.2 rfl) RVs.nil) rfl rfl fun g4 w4 v4 _ _ r4 hx4 _ => ?_))))));have hfr := hfr.ext hx4;refine Z4 rfl (Qg (vs := [.pointer (some ⟨bk, 0, none⟩), v4]) en68 (.cons rfl (.cons rfl .nil)) (wk68 (hT3.ext hx4) (hw3.ext hx4) r4 hs0) fun q5 w5 h5 => ?_);obtain ⟨g5, hx5, hw5⟩ := h5;have hfr := hfr.stp hx5;have hT5 := (hT3.ext hx4).stp hx5;have q5 := (q3.ext hx4).stp hx5;refine Z3 ?_;clear hT0 hT1 hT2 hT3 hx1 hx2 hx3 hx4 hx5 q1 q2 q3 rm r4 hc hck hw3;refine Kl (fun e ds w' => ds = [] ∧ e 1 = p1 ∧ e 5 = .pointer (some ⟨bk, 0, none⟩) ∧ ∃ g', Fr gI wI g' w' ∧ Ch g5.m w5 g'.m w' ∧ WR 1 g' w' 5 133 s1 (.pointer (some ⟨bk, 0, none⟩))) (fun Q' hQ => ?_) (fun e ds w6 hR => ?_)
 ·clear h
  refine Z5 (Zx (Gc p1 0) (Zc Qm rfl (PT.ptr q5)) rfl (Z4 rfl (Z7 (g := g5) isAgg36 sizeOf36 rfl (Zm Tl.1 q5) fun tv rt => (Zx (Iz (x0.Ties.length : Int)) (G3 (v := tv) underlying36 rfl rt) rfl (Zn (Iz 0) rfl rfl (Z3 (Zr ?_)))))));unfold Oz at hs1;refine Vt hs1 (fun (z : (List UInt8 × Int) × Int) e ds w' => ds = [] ∧ e 1 = p1 ∧ e 5 = .pointer (some ⟨bk, 0, none⟩) ∧ e 27 = tv ∧ e 28 = Iz (x0.Ties.length : Int) ∧ e 29 = Iz z.2 ∧ ∃ g', Fr gI wI g' w' ∧ Ch g5.m w5 g'.m w' ∧ WR 1 g' w' 5 133 z.1 (.pointer (some ⟨bk, 0, none⟩))) ⟨rfl, rfl, rfl, rfl, rfl, rfl, g5, hfr, Ch.refl _ _, hw5⟩ (fun X rec hrec => ?_);rintro ⟨s, n⟩ e ds w1 ⟨rfl, e1, e5, e27, e28, e29, g, hfr, hch, hw⟩ hk;refine Z5 (Gd (.bool (decide (n < (x0.Ties.length : Int)))) e29 e28 rfl rfl (Z3 ?_));rcases Zt hk with ⟨hc, hk⟩ | ⟨hc, hk⟩
  ·refine Zf (Gx hc rfl (Zu (Zd ?_)))
   obtain ⟨a, ha, hk⟩ := Z1 hk;obtain ⟨ws, hws, hk⟩ := Z1 hk;obtain ⟨y, hy, hk⟩ := Z1 hk;refine Kl (fun e ds w' => ds = [] ∧ e 1 = p1 ∧ e 5 = .pointer (some ⟨bk, 0, none⟩) ∧ e 27 = tv ∧ e 28 = Iz (x0.Ties.length : Int) ∧ e 29 = Iz n ∧ ∃ g', Fr gI wI g' w' ∧ Ch g5.m w5 g'.m w' ∧ WR 1 g' w' 5 133 y (.pointer (some ⟨bk, 0, none⟩))) (fun Q2 hQ2 => ?_) (fun e ds w2 hR => ?_)
   ·refine Zr (Z5 ?_)
    have rt1 := rt.ch hch;refine Zx (Gq tv n 3) (Zh (α := Gs) underlying36 sizeOf108 e27 rt1 e29 ha) rfl (Z4 rfl (Z7 (g := g) isAgg108 sizeOf108 rfl (Gn rt1 ha) fun va ra => (Z4 rfl (Vn (g := g) 2 (⟨⟨[]⟩, ⟨0, []⟩⟩ : Gs) zeroValue108 (fun m w => ⟨_, Gk Db (Gk Zw Q0), rfl⟩) fun g2 w2 pt hs2 b2 => (Z4 rfl (Tx (g := g2) (v := va) sizeOf108 rfl b2 rfl (ra.stp hs2) fun g3 w3 hs3 b3 => ?_))))));obtain ⟨g4, hs4, q4⟩ := b3.pub;have hfr := ((hfr.stp hs2).stp hs3).stp hs4;have hch := hch.trans (hs2.ch.trans (hs3.ch.trans hs4.ch));have hw := ((hw.stp hs2 rfl).stp hs3 rfl).stp hs4 rfl;clear b2 b3 hs2 hs3 hs4 ra rt1;refine Z3 (Z5 ?_);have qh := Zm Ws.1 q4;refine Zx (AnyV.str ⟨[116, 105, 101]⟩ : K7).v (Ht underlying9 rfl) rfl (Zx (Gc pt 0) (Zc Hu rfl (PT.ptr q4)) rfl (Z4 rfl (Z7 (g := g4) isAgg9 sizeOf9 rfl (Zm K0.1 q4) fun v5 r5 => ?_)));obtain rfl := Ts.1 r5;refine Zx (AnyV.str a.Name : K7).v (Ht underlying9 rfl) rfl (Zx (Gc pt 1) (Zc K9 rfl (PT.ptr q4)) rfl (Zx (Gc (Gc pt 1) 0) (Zc Hq rfl (PT.ptr qh)) rfl (Z4 rfl (Z7 (g := g4) isAgg3 sizeOf3 rfl (Zm Qx.1 qh) fun v6 r6 => ?_))));obtain rfl := Zj.1 r6;refine Zx (AnyV.int a.Harness.Hooks : K7).v (Ye underlying3 rfl) rfl (Z4 rfl (Ga (g := g4) 3 (xs := ([.str ⟨[116, 105, 101]⟩, .str a.Name, .int a.Harness.Hooks] : List K7)) (vs := [_, _, _]) underlying135 sizeOf20 zeroValue20 rfl rfl (.cons rfl (.cons rfl (.cons rfl .nil))) (RVs.cons (Hh.2 rfl) (RVs.cons (Hh.2 rfl) (RVs.cons (Hh.2 rfl) RVs.nil))) rfl rfl fun g7 w7 v7 _ o7 r7 hx7 _ => ?_));have hfr := hfr.ext hx7;have hch := hch.trans hx7.ch;have hw := hw.ext hx7;have qh := qh.ext hx7;refine Zg v7 rfl rfl (Z3 ?_);have hpt := PT.ptr q4;clear hx7 q4;refine Kl (fun e ds w' => ds = [] ∧ e 1 = p1 ∧ e 5 = .pointer (some ⟨bk, 0, none⟩) ∧ e 27 = tv ∧ e 28 = Iz (x0.Ties.length : Int) ∧ e 29 = Iz n ∧ ∃ g' v8, e 8 = v8 ∧ Fr gI wI g' w' ∧ Ch g5.m w5 g'.m w' ∧ WR 1 g' w' 5 133 s (.pointer (some ⟨bk, 0, none⟩)) ∧ RV g'.m w' ws v8) (fun Q3 hQ3 => ?_) (fun e ds w8 hR => ?_)
    ·refine Z5 (Zx (Gc pt 1) (Zc K9 rfl hpt) rfl (Zx (Gc (Gc pt 1) 1) (Zc Hb rfl (PT.ptr qh)) rfl (Z4 rfl (Z7 (g := g7) isAgg22 sizeOf22 rfl (Zm Ql.1 qh) fun hv rh => (Zx (Iz (a.Harness.Warps.length : Int)) (G3 (v := hv) underlying22 rfl rh) rfl (Zn (Iz 0) rfl rfl (Z3 (Zr ?_))))))))
     unfold O6 at hws;refine Vt hws (fun (z : List K7 × Int) e ds w' => ds = [] ∧ e 1 = p1 ∧ e 5 = .pointer (some ⟨bk, 0, none⟩) ∧ e 27 = tv ∧ e 28 = Iz (x0.Ties.length : Int) ∧ e 29 = Iz n ∧ e 44 = hv ∧ e 45 = Iz (a.Harness.Warps.length : Int) ∧ e 46 = Iz z.2 ∧ ∃ g' v8, e 8 = v8 ∧ Fr gI wI g' w' ∧ Ch g5.m w5 g'.m w' ∧ Ch g7.m w7 g'.m w' ∧ WR 1 g' w' 5 133 s (.pointer (some ⟨bk, 0, none⟩)) ∧ RV g'.m w' z.1 v8 ∧ OS 3 g' w' 20 z.1 v8) ⟨rfl, e1, e5, e27, e28, e29, rfl, rfl, rfl, g7, v7, rfl, hfr, hch, Ch.refl _ _, hw, r7, o7⟩ (fun X rec hrec => ?_);rintro ⟨zs, j⟩ e ds w1 ⟨rfl, e1, e5, e27, e28, e29, e44, e45, e46, g, v8, e8, hfr, hch, hch7, hw, rz, oz⟩ hk;refine Z5 (Gd (.bool (decide (j < (a.Harness.Warps.length : Int)))) e46 e45 rfl rfl (Z3 ?_));rcases Zt hk with ⟨hc, hk⟩ | ⟨hc, hk⟩
     ·refine Zf (Gx hc rfl (Zu (Zd ?_)))
      obtain ⟨b, hb, hk⟩ := Z1 hk;obtain ⟨yy, hyy, hk⟩ := Z1 hk;have rh1 := rh.ch hch7;refine Zf (Zr (Z5 (Zx (Gq hv j 1) (Zh (α := Int) underlying22 sizeOf3 e44 rh1 e46 hb) rfl (Z4 rfl (Z7 (g := g) isAgg3 sizeOf3 rfl (Gn rh1 hb) fun vb rb => ?_)))));obtain rfl := Zj.1 rb;refine Zg (Iz b) rfl rfl (Z3 (Za (Zo e8 rfl (Zn (Iz b) rfl rfl (Zx (AnyV.int b : K7).v (Ye underlying3 rfl) rfl (Z4 rfl (Ga (g := g) 4 (xs := ([.int b] : List K7)) (vs := [_]) underlying135 sizeOf20 zeroValue20 rfl rfl (.cons rfl .nil) (RVs.cons (Hh.2 rfl) RVs.nil) rfl rfl fun g2 w2 v2 _ _ r2 hx2 _ => (Z4 rfl (Qd (g := g2) (i := 3) underlying135 Ar rfl rfl (oz.ext hx2) (rz.ext hx2) rfl r2 hyy fun g3 w3 v3 hs3 o3 r3 _ => (Zg v3 rfl rfl (Zb (Th (Zd (Za (Gd (Iz (w64 (j + (1 : Int)))) e46 rfl rfl rfl (Zn (Iz (w64 (j + (1 : Int)))) rfl rfl ?_))))))))))))))));exact Z3 (hrec (yy, w64 (j + 1)) _ _ _ ⟨rfl, e1, e5, e27, e28, e29, e44, e45, rfl, g3, v3, rfl, (hfr.ext hx2).stp hs3, hch.trans (hx2.ch.trans hs3.ch), hch7.trans (hx2.ch.trans hs3.ch), (hw.ext hx2).stp hs3 rfl, r3, o3⟩ hk)
     ·refine Zf (Gy hc rfl (Tu (G5 (G5 (Tf ?_)))))
      obtain rfl := sinj hk;exact hQ3 _ _ _ ⟨rfl, e1, e5, e27, e28, e29, g, v8, e8, hfr, hch, hw, rz⟩
    ·obtain ⟨rfl, e1, e5, e27, e28, e29, g, v8, e8, hfr, hch, hw, rz⟩ := hR
     refine Za (Zo e5 rfl (Zo e8 rfl (Z4 rfl (Qg (vs := [.pointer (some ⟨bk, 0, none⟩), v8]) en68 (.cons rfl (.cons rfl .nil)) (wk68 (hT5.ch hch) hw rz hy) fun q9 w9 h9 => ?_))));obtain ⟨g9, hs9, hw9⟩ := h9;exact Zb (Th (hQ2 _ _ _ ⟨rfl, e1, e5, e27, e28, e29, g9, hfr.stp hs9, hch.trans hs9.ch, hw9⟩))
   ·obtain ⟨rfl, e1, e5, e27, e28, e29, g, hfr, hch, hw⟩ := hR
    refine Za (Gd (Iz (w64 (n + (1 : Int)))) e29 rfl rfl rfl (Zn (Iz (w64 (n + (1 : Int)))) rfl rfl ?_));exact Z3 (hrec (y, w64 (n + 1)) _ _ _ ⟨rfl, e1, e5, e27, e28, rfl, g, hfr, hch, hw⟩ hk)
  ·refine Zf (Gy hc rfl (Tu (G5 (G5 (Tf ?_)))))
   obtain rfl := sinj hk;exact hQ _ _ _ ⟨rfl, e1, e5, g, hfr, hch, hw⟩
 obtain ⟨rfl, e1, e5, g6, hfr6, hch6, hw6⟩ := hR;have q6 := q5.ch hch6;have hT6 := hT5.ch hch6;clear hfr hs1 hw5 q5 hT5 hch6 hs0;refine Kl (fun e ds w' => ds = [] ∧ e 5 = .pointer (some ⟨bk, 0, none⟩) ∧ ∃ g', Fr gI wI g' w' ∧ Ch g6.m w6 g'.m w' ∧ WR 1 g' w' 5 133 s2 (.pointer (some ⟨bk, 0, none⟩))) (fun Q' hQ => ?_) (fun e ds w' hR => ?_)
 ·clear h
  refine Z5 (Zx (Gc p1 1) (Zc Q9 e1 (PT.ptr q6)) rfl (Z4 rfl (Z7 (g := g6) isAgg37 sizeOf37 rfl (Zm Tt.1 q6) fun tv rt => (Zx (Iz (x0.Chains.length : Int)) (G3 (v := tv) underlying37 rfl rt) rfl (Zn (Iz 0) rfl rfl (Z3 (Zr ?_)))))));unfold Ld at hs2;refine Vt hs2 (fun (z : (List UInt8 × Int) × Int) e ds w' => ds = [] ∧ e 5 = .pointer (some ⟨bk, 0, none⟩) ∧ e 61 = tv ∧ e 62 = Iz (x0.Chains.length : Int) ∧ e 63 = Iz z.2 ∧ ∃ g', Fr gI wI g' w' ∧ Ch g6.m w6 g'.m w' ∧ WR 1 g' w' 5 133 z.1 (.pointer (some ⟨bk, 0, none⟩))) ⟨rfl, e5, rfl, rfl, rfl, g6, hfr6, Ch.refl _ _, hw6⟩ (fun X rec hrec => ?_);rintro ⟨s, n⟩ e ds w1 ⟨rfl, e5, e61, e62, e63, g, hfr, hch, hw⟩ hk;refine Z5 (Gd (.bool (decide (n < (x0.Chains.length : Int)))) e63 e62 rfl rfl (Z3 ?_));rcases Zt hk with ⟨hc, hk⟩ | ⟨hc, hk⟩
  ·refine Zf (Gx hc rfl (Zu (Zd ?_)))
   obtain ⟨a, ha, hk⟩ := Z1 hk;obtain ⟨sa, hsa, hk⟩ := Z1 hk;obtain ⟨y, hy, hk⟩ := Z1 hk;refine Kl (fun e ds w' => ds = [] ∧ e 5 = .pointer (some ⟨bk, 0, none⟩) ∧ e 61 = tv ∧ e 62 = Iz (x0.Chains.length : Int) ∧ e 63 = Iz n ∧ ∃ g', Fr gI wI g' w' ∧ Ch g6.m w6 g'.m w' ∧ WR 1 g' w' 5 133 y (.pointer (some ⟨bk, 0, none⟩))) (fun Q2 hQ2 => ?_) (fun e ds w2 hR => ?_)
   ·refine Zr (Z5 ?_)
    have rt1 := rt.ch hch;refine Zx (Gq tv n 3) (Zh (α := Gi) underlying37 sizeOf94 e61 rt1 e63 ha) rfl (Z4 rfl (Z7 (g := g) isAgg94 sizeOf94 rfl (Gn rt1 ha) fun va ra => (Z4 rfl (Vn (g := g) 2 (⟨⟨[]⟩, ⟨0, []⟩⟩ : Gi) zeroValue94 (fun m w => ⟨_, Gk Db (Gk Zw Q0), rfl⟩) fun g2 w2 pt hs2 b2 => (Z4 rfl (Tx (g := g2) (v := va) sizeOf94 rfl b2 rfl (ra.stp hs2) fun g3 w3 hs3 b3 => ?_))))));obtain ⟨g4, hs4, q4⟩ := b3.pub;have hfr := ((hfr.stp hs2).stp hs3).stp hs4;have hch := hch.trans (hs2.ch.trans (hs3.ch.trans hs4.ch));have hw := ((hw.stp hs2 rfl).stp hs3 rfl).stp hs4 rfl;clear b2 b3 hs2 hs3 hs4 ra rt1;refine Z3 (Z5 ?_);have qh := Zm Ka.1 q4;refine Zo e5 rfl (Zx (AnyV.str ⟨[99, 104, 97, 105, 110]⟩ : K7).v (Ht underlying9 rfl) rfl (Zx (Gc pt 0) (Zc Yl rfl (PT.ptr q4)) rfl (Z4 rfl (Z7 (g := g4) isAgg9 sizeOf9 rfl (Zm K5.1 q4) fun v5 r5 => ?_))));obtain rfl := Ts.1 r5;refine Zx (AnyV.str a.Name : K7).v (Ht underlying9 rfl) rfl (Zx (Gc pt 1) (Zc He rfl (PT.ptr q4)) rfl (Zx (Gc (Gc pt 1) 0) (Zc Jv rfl (PT.ptr qh)) rfl (Z4 rfl (Z7 (g := g4) isAgg3 sizeOf3 rfl (Zm Q5.1 qh) fun v6 r6 => ?_))));obtain rfl := Zj.1 r6;refine Zx (AnyV.int a.Chain.Hooks : K7).v (Ye underlying3 rfl) rfl (Z4 rfl (Ga (g := g4) 3 (xs := ([.str ⟨[99, 104, 97, 105, 110]⟩, .str a.Name, .int a.Chain.Hooks] : List K7)) (vs := [_, _, _]) underlying135 sizeOf20 zeroValue20 rfl rfl (.cons rfl (.cons rfl (.cons rfl .nil))) (RVs.cons (Hh.2 rfl) (RVs.cons (Hh.2 rfl) (RVs.cons (Hh.2 rfl) RVs.nil))) rfl rfl fun g7 w7 v7 _ o7 r7 hx7 _ => ?_));have hfr := hfr.ext hx7;have hch := hch.trans hx7.ch;have hw := hw.ext hx7;refine Z4 rfl (Qg (vs := [.pointer (some ⟨bk, 0, none⟩), v7]) en68 (.cons rfl (.cons rfl .nil)) (wk68 (hT6.ch hch) hw r7 hsa) fun q8 w8 h8 => ?_);obtain ⟨g8, hs8, hw8⟩ := h8;have hfr := hfr.stp hs8;have hch := hch.trans hs8.ch;have hpt := PT.ptr q4;have qh := (qh.ext hx7).stp hs8;clear hx7 q4 r7 o7 hw;refine Z3 (Z5 (Zx (Gc pt 1) (Zc He rfl hpt) rfl (Zx (Gc (Gc pt 1) 1) (Zc Hg rfl (PT.ptr qh)) rfl (Z4 rfl (Z7 (g := g8) isAgg90 sizeOf90 rfl (Zm Qi.1 qh) fun hv rh => (Zx (Iz (a.Chain.Cards.length : Int)) (G3 (v := hv) underlying90 rfl rh) rfl (Zn (Iz 0) rfl rfl (Z3 (Zr ?_)))))))));unfold Pz at hy;refine Vt hy (fun (z : (List UInt8 × Int) × Int) e ds w' => ds = [] ∧ e 5 = .pointer (some ⟨bk, 0, none⟩) ∧ e 12 = pt ∧ e 61 = tv ∧ e 62 = Iz (x0.Chains.length : Int) ∧ e 63 = Iz n ∧ e 80 = hv ∧ e 81 = Iz (a.Chain.Cards.length : Int) ∧ e 82 = Iz z.2 ∧ ∃ g', Fr gI wI g' w' ∧ Ch g6.m w6 g'.m w' ∧ Ch g8.m w8 g'.m w' ∧ WR 1 g' w' 5 133 z.1 (.pointer (some ⟨bk, 0, none⟩))) ⟨rfl, e5, rfl, e61, e62, e63, rfl, rfl, rfl, g8, hfr, hch, Ch.refl _ _, hw8⟩ (fun X rec hrec => ?_);rintro ⟨sz, j⟩ e ds w1 ⟨rfl, e5, e12, e61, e62, e63, e80, e81, e82, g, hfr, hch, hch8, hw⟩ hk;refine Z5 (Gd (.bool (decide (j < (a.Chain.Cards.length : Int)))) e82 e81 rfl rfl (Z3 ?_));rcases Zt hk with ⟨hc, hk⟩ | ⟨hc, hk⟩
    ·refine Zf (Gx hc rfl (Zu (Zd ?_)))
     obtain ⟨b, hb, hk⟩ := Z1 hk;obtain ⟨yy, hyy, hk⟩ := Z1 hk;have rh1 := rh.ch hch8;refine Zf (Zr (Z5 (Zx (Gq hv j 3) (Zh (α := Gb) underlying90 sizeOf96 e80 rh1 e82 hb) rfl (Z4 rfl (Z7 (g := g) isAgg96 sizeOf96 rfl (Gn rh1 hb) fun vb rb => (Z4 rfl (Vn (g := g) 2 (⟨0, 0, false⟩ : Gb) zeroValue96 (fun m w => ⟨_, Gk Zw (Gk Zw Ba), rfl⟩) fun g2 w2 pc hs2 b2 => (Z4 rfl (Tx (g := g2) (v := vb) sizeOf96 rfl b2 rfl (rb.stp hs2) fun g3 w3 hs3 b3 => ?_)))))))));obtain ⟨g4, hs4, q4⟩ := b3.pub;have hfr := ((hfr.stp hs2).stp hs3).stp hs4;have hch4 := hs2.ch.trans (hs3.ch.trans hs4.ch);have hw := ((hw.stp hs2 rfl).stp hs3 rfl).stp hs4 rfl;refine Z3 (Za (Zo e5 rfl (Z4 rfl (Z7 (g := g4) isAgg96 sizeOf96 rfl q4 fun vc rc => (Zx (Gc pt 1) (Zc He e12 hpt) rfl ?_)))));have qh4 := (qh.ch hch8).ch hch4;refine Zx (Gc (Gc pt 1) 0) (Zc Jv rfl (PT.ptr qh4)) rfl (Z4 rfl (Z7 (g := g4) isAgg3 sizeOf3 rfl (Zm Q5.1 qh4) fun v6 r6 => ?_));obtain rfl := Zj.1 r6;refine Z4 rfl (Qg (vs := [.pointer (some ⟨bk, 0, none⟩), vc, Iz a.Chain.Hooks]) en69 (.cons rfl (.cons rfl (.cons rfl .nil))) (wk69 (hT6.ch (hch.trans hch4)) hw rc hyy) fun q9 w9 h9 => ?_);obtain ⟨g9, hs9, hw9⟩ := h9;refine Zb (Th (Zd (Za (Gd (Iz (w64 (j + (1 : Int)))) e82 rfl rfl rfl (Zn (Iz (w64 (j + (1 : Int)))) rfl rfl ?_)))));exact Z3 (hrec (yy, w64 (j + 1)) _ _ _ ⟨rfl, e5, e12, e61, e62, e63, e80, e81, rfl, g9, hfr.stp hs9, hch.trans (hch4.trans hs9.ch), hch8.trans (hch4.trans hs9.ch), hw9⟩ hk)
    ·refine Zf (Gy hc rfl (Tu (G5 (G5 (Tf ?_)))))
     obtain rfl := sinj hk;exact Th (hQ2 _ _ _ ⟨rfl, e5, e61, e62, e63, g, hfr, hch, hw⟩)
   ·obtain ⟨rfl, e5, e61, e62, e63, g, hfr, hch, hw⟩ := hR
    refine Za (Gd (Iz (w64 (n + (1 : Int)))) e63 rfl rfl rfl (Zn (Iz (w64 (n + (1 : Int)))) rfl rfl ?_));exact Z3 (hrec (y, w64 (n + 1)) _ _ _ ⟨rfl, e5, e61, e62, rfl, g, hfr, hch, hw⟩ hk)
  ·refine Zf (Gy hc rfl (Tu (G5 (G5 (Tf ?_)))))
   obtain rfl := sinj hk;exact hQ _ _ _ ⟨rfl, e5, g, hfr, hch, hw⟩
 clear e1 e5;obtain ⟨rfl, e5, g7, hfr7, hch7, hw7⟩ := hR;have hT7 := hT6.ch hch7;clear hfr6 hch7 hT6 q6 hw6 hs2;rcases Zt h with ⟨hc, h⟩ | ⟨hc, h⟩
 ·cases h
 obtain ⟨sm, hsm, h⟩ := Z1 h;obtain ⟨s3, hs3, h⟩ := Z1 h;rcases Zt h with ⟨hc3, h⟩ | ⟨hc3, h⟩
 ·cases h
 obtain rfl := sinj h;refine Zf ?_;obtain ⟨b, av, vv, hp, hb7, hz7, hne7, ha7⟩ := hw7;injection hp with hp; injection hp with hp; injection hp with hp _;subst hp;have hw7 : WR 1 g7 w' 5 133 s2 (.pointer (some ⟨bk, 0, none⟩)) := ⟨_, av, vv, rfl, hb7, hz7, hne7, ha7⟩;have hlt7 := hb7.lt;have hbx : HBm 7 { m := g7.m, o := fun b => if b = bk then 7 else g7.o b } w' bk (.cells #[av, vv, Iz s2.2] 133 (0, 0)) := ⟨by simp, hb7.2.1, hb7.2.2⟩;have hl := Jo isAgg3 hbx (o := 2) (c := Iz s2.2) rfl;refine Qk (g := { m := g7.m, o := fun b => if b = bk then 7 else g7.o b }) (n := 14) [0, 1, 2, 3, 4, 5, 6, 7, 8, 9, 12] [7] [0, 1, 2, 3, 4, 5, 6, 7, 8, 9, 10, 11, 12, 13] rfl J3 (by kernel_rfl) fun wc hx hlt => ?_;have hxc : Ext g7 w' g7 wc := ⟨hx.below, fun _ _ => rfl, fun _ _ => rfl⟩;have hwc := hw7.ext hxc;have hTc := hT7.ext hxc;refine Z6 (c := .pointer (some ⟨bk, 0, none⟩)) rfl rfl .plain (Zk e5) (Z6 (c := (AnyV.str ⟨[101, 110, 100]⟩ : K7).v) rfl rfl .plain (Ht underlying9 rfl) (Z6 (c := .pointer (some ⟨bk, 0, none⟩)) rfl rfl .plain (Zk e5) (Z6 (c := .pointer (some ⟨bk, 0, none⟩)) rfl rfl .plain (Z8 rfl) (Z6 (c := .pointer (some ⟨bk, 2, none⟩)) rfl rfl .plain (show Pur _ _ _ (Gc (.pointer (some ⟨bk, 0, none⟩)) 2) from Zc P7 rfl ⟨bk, 0, rfl⟩) (Wu (n := 7) (c := Iz s2.2) rfl rfl .plain (hl _) rfl rfl (Z6 (c := (AnyV.int s2.2 : K7).v) rfl rfl .plain (Ye underlying3 rfl) (Z6 (c := .pointer (some ⟨bk, 0, none⟩)) rfl rfl .plain (Zk e5) (Z6 (c := .pointer (some ⟨bk, 0, none⟩)) rfl rfl .plain (Z8 rfl) (Z6 (c := .pointer (some ⟨bk, 0, none⟩)) rfl rfl .plain (show Pur _ _ _ (Gc (.pointer (some ⟨bk, 0, none⟩)) 0) from Zc Sf rfl ⟨bk, 0, rfl⟩) (W7 rfl rfl .plain (Qg (vs := [.pointer (some ⟨bk, 0, none⟩)]) en71 (.cons rfl .nil) (wst hwc (nemp hc)) fun q8 w8 h8 => ?_)))))))))));obtain ⟨rfl, hbk8, g8, hs8, hw8⟩ := h8;have hbk8 := hbk8 bk rfl;have hst8 : Stp 1 g7 w' g8 w8 := hxc.stp.trans hs8;have hhb8 : w8.heap[bk]? = w'.heap[bk]? := hbk8.trans (hxc.below.block bk hlt7);refine ⟨(Fg hb7.1 hst8 hhb8).toW, ?_⟩;refine W7 rfl rfl .plain (Zp (g := g8) (vs := [Str.v ⟨s2.1⟩]) en70 (.cons rfl .nil) (wk70 hsm) fun g9 w9 v9 hx9 hv9 => ?_);subst hv9;have hlt8 : bk < w8.heap.size := Gw (hhb8.trans hb7.2.2);have hhb9 : w9.heap[bk]? = w'.heap[bk]? := (hx9.below.block bk hlt8).trans hhb8;refine ⟨(Fg hb7.1 (hst8.trans hx9.stp) hhb9).toW, ?_⟩;refine Z6 (c := (AnyV.int sm : K7).v) rfl rfl .plain (Ye underlying3 rfl) (W7 rfl rfl .plain (Ga (g := g9) 3 (xs := ([.str ⟨[101, 110, 100]⟩, .int s2.2, .int sm] : List K7)) (vs := [_, _, _]) underlying135 sizeOf20 zeroValue20 rfl rfl (.cons rfl (.cons rfl (.cons rfl .nil))) (RVs.cons (Hh.2 rfl) (RVs.cons (Hh.2 rfl) (RVs.cons (Hh.2 rfl) RVs.nil))) rfl rfl fun g10 w10 v10 _ o10 r10 hx10 _ => ?_));have hlt9 : bk < w9.heap.size := Gw (hhb9.trans hb7.2.2);refine ⟨(Fg hb7.1 ((hst8.trans hx9.stp).trans hx10.stp) ((hx10.below.block bk hlt9).trans hhb9)).toW, ?_⟩;refine Q7 ?_;have hw10 := (hw8.ext hx9).ext hx10;have hT10 := hT7.ch (hst8.ch.trans (hx9.ch.trans hx10.ch));have hfr10 := ((hfr7.stp hst8).ext hx9).ext hx10;refine Z4 rfl (Qg (vs := [.pointer (some ⟨bk, 0, none⟩), v10]) en68 (.cons rfl (.cons rfl .nil)) (wk68 hT10 hw10 r10 hs3) fun q11 w11 h11 => ?_);obtain ⟨g11, hs11, hw11⟩ := h11;refine Z3 (Z5 (Zo e5 rfl (Zx (.pointer (some ⟨bk, 0, none⟩)) (Z8 rfl) rfl (Zx (.pointer (some ⟨bk, 0, none⟩)) (show Pur _ _ _ (Gc (.pointer (some ⟨bk, 0, none⟩)) 0) from Zc Sf rfl ⟨bk, 0, rfl⟩) rfl (Z4 rfl (Qg (vs := [.pointer (some ⟨bk, 0, none⟩)]) en71 (.cons rfl .nil) (wst hw11 (nemp hc3)) fun q12 w12 h12 => ?_))))));obtain ⟨rfl, _, g12, hs12, hw12⟩ := h12;refine Zg (Str.v ⟨s3.1⟩) rfl rfl (Zg (Iz 0) rfl rfl (Z3 (Z9 ?_)));exact J4 rfl rfl rfl rfl ⟨_, (hfr10.stp hs11).stp hs12, _, _, rfl, rfl, rfl⟩

theorem C7 {m : Nat → Nat} {w : World} : ∀ {rows : List Fv} {cs : List Value}, Tn m w rows cs → cs = rows.map (·.v)
 | [], _, h => h
 | _ :: _, _, ⟨_, _, rfl, h1, h2⟩ => by
  have h1 : _ = [_] := h1
  rw [h1, C7 h2]; rfl
theorem RO.ofOA {i : Nat} {g : Gh} {w : World} {t : TypeId} {rows : List Fv} {v : Value} (h : OA i g w t rows v) : RO i g w t rows v := by
 rcases h with h | ⟨b, c, cs, hv, ho, hm, hh, h1, h2, h3, hf⟩
 ·exact .inl h
 ·refine .inr ⟨b, c, cs, hv, ho, hm, hh, h1, h2, by simpa [GoT.k] using h3, fun n r hn => ?_⟩
  have hk : GoT.k Fv = 1 := rfl;have he := C7 hf;have hl : n < rows.length := (List.getElem?_eq_some_iff.1 hn).1
  have h5 : (cs.toList.take (rows.length * GoT.k Fv))[n]? = some r.v := by rw [he]; simp [hn]
  rw [List.getElem?_take, hk, if_pos (by omega)] at h5;simpa using h5
theorem P9 {α : Type} [GoT α] {t : TypeId} {j : Nat} {g : Gh} {w : World} (n : Nat) : Uu (RS (α := α) t) j g w (List.replicate n (⟨.slice none 0 0, rfl⟩ : Fv)) (List.replicate n []) none := by
 refine ⟨by simp, fun k r x _ h1 h2 => ?_, fun k k' r r' _ _ _ h1 h2 => ?_⟩
 ·obtain ⟨_, rfl⟩ := List.getElem?_eq_some_iff.1 h1
  obtain ⟨_, rfl⟩ := List.getElem?_eq_some_iff.1 h2;simp only [List.getElem_replicate];exact ⟨OS.nil, Tp⟩
 ·obtain ⟨_, rfl⟩ := List.getElem?_eq_some_iff.1 h1
  simp only [List.getElem_replicate];intro b n c b' n' c' h
  cases h
theorem Pr : (prog.info? 167).map (fun i => (i.zero, i.size, i.bytes)) = some (some (.agg #[.int .i64 0, .int .i64 0]), 2, 16) := by kernel_rfl
theorem Pc : (prog.info? 104).map (fun i => (i.zero, i.size, i.bytes)) = some (some (.slice none 0 0), 1, 24) := by kernel_rfl
noncomputable def f43 (m : Gg) (l : List (List UInt8)) : Option ((List (List Str)) × Int × Int) :=
  (f67 m).bind fun ck => bif ck != (0 : Int) then some ([], 0, ck) else
  (f95 l).bind fun jn => bif jn.2.2 != (0 : Int) then some ([], jn.2.1, jn.2.2) else
  lp (σ := (List T0 × List (List Str)) × Int) (fun k z => bif decide (z.2 < (jn.1.length : Int)) then (idx jn.1 z.2).bind fun c =>
    bif (bif decide (c.Chain ≥ (m.Chains.length : Int)) then true else decide (c.Tie ≥ (m.Ties.length : Int))) then some ([], z.2, 7) else
    (idx z.1.1 c.Loom).bind fun cy => (f96 cy m c).bind fun wv =>
    bif wv.2.1 != (0 : Int) then some ([], z.2, wv.2.1) else
    (idx z.1.2 c.Loom).bind fun rw => (apnd 16 rw wv.1).bind fun y => k ((z.1.1.set c.Loom.toNat wv.2.2, z.1.2.set c.Loom.toNat y), w64 (z.2 + (1 : Int)))
   else some (z.1.2, 0, 0)) big ((List.replicate 16 ⟨0, 0⟩, List.replicate 16 []), 0)
theorem en43 : Enters prog 43 := enters_of func43 (by kernel_rfl) rfl
theorem wk43 {gI : Gh} {wI : World} {x0 : Gg} {x1 : List (List UInt8)} {up0 up1 : Value} (rp0 : RV gI.m wI x0 up0) (rp1 : RV gI.m wI x1 up1) {r : (List (List Str)) × Int × Int} (h : f43 x0 x1 = some r) :
  Fn prog 43 #[up0, up1] gI wI (fun m w v => ∃ y0 y1 y2, v = .tuple #[y0, y1, y2] ∧ RV m w r.1 y0 ∧ y1 = Iz r.2.1 ∧ y2 = Iz r.2.2) := by
 unfold f43 at h
 obtain ⟨ck, hck, h⟩ := Z1 h
 refine fnE func43 rfl rfl fun g0 hm hfr => ?_
 have rp0 := RVc hm rp0
 have rp1 := RVc hm rp1
 show E _ 82 none _ _ _ _ _
 refine Z5 (Z4 rfl (T1 (g := g0) rfl rp0 fun g1 w1 p2 hx1 q2 => ?_))
 have hfr := hfr.ext hx1
 have rp1 := rp1.ext hx1
 refine Zg (.slice none 0 0) rfl rfl (Zg (Iz 0) rfl rfl (Zg (Iz 0) rfl rfl (Z3 (Zf (Z5 (Z4 rfl (Z7 (g := g1) isAgg39 sizeOf39 rfl q2 fun vm rm => (Z4 rfl (Zp (g := g1) (vs := [vm]) en67 (.cons rfl .nil) (wk67 rm hck) fun g2 w2 v2 hx2 hv2 => ?_)))))))))
 subst hv2
 have hfr := hfr.ext hx2
 have rp1 := rp1.ext hx2
 have q2 := q2.ext hx2
 refine Zg (Iz ck) rfl rfl (Z3 (Z5 (Zn (Iz ck) rfl rfl (Gd (.bool (ck != (0 : Int))) rfl rfl rfl rfl (Z3 ?_)))))
 rcases Zt h with ⟨hc, h⟩ | ⟨hc, h⟩
 ·refine Gx hc rfl (Z5 (Zn (Iz ck) rfl rfl (Zg (.slice none 0 0) rfl rfl (Zg (Iz 0) rfl rfl (Zg (Iz ck) rfl rfl (Z3 (Z9 (Gf ?_))))))))
  obtain rfl := sinj h
  exact Hc rfl rfl rfl rfl rfl ⟨_, hfr, _, _, _, rfl, Tp, rfl, rfl⟩
 refine Gy hc rfl (Zu (Zd ?_))
 obtain ⟨jn, hjn, h⟩ := Z1 h
 refine Z5 (Zn up1 rfl rfl (Z4 rfl (Zp (g := g2) (vs := [up1]) en95 (.cons rfl .nil) (wk95 rp1 hjn) fun g3 w3 v3 hx3 hv => ?_)))
 obtain ⟨lv, y1, y2, rfl, rl, rfl, rfl⟩ := hv
 have hfr := hfr.ext hx3
 have q2 := q2.ext hx3
 refine Zn (.tuple #[lv, Iz jn.2.1, Iz jn.2.2]) rfl rfl (Zx lv (Zi rfl rfl) rfl (Zx (Iz jn.2.1) (Zi rfl rfl) rfl (Zx (Iz jn.2.2) (Zi rfl rfl) rfl (Zg lv rfl rfl (Zg (Iz jn.2.1) rfl rfl (Zg (Iz jn.2.2) rfl rfl (Z3 (Zf (Z5 (Zn (Iz jn.2.2) rfl rfl (Gd (.bool (jn.2.2 != (0 : Int))) rfl rfl rfl rfl (Z3 ?_))))))))))))
 rcases Zt h with ⟨hc2, h⟩ | ⟨hc2, h⟩
 ·refine Gx hc2 rfl (Z5 (Zn (Iz jn.2.1) rfl rfl (Zn (Iz jn.2.2) rfl rfl (Zg (.slice none 0 0) rfl rfl (Zg (Iz jn.2.1) rfl rfl (Zg (Iz jn.2.2) rfl rfl (Z3 (Z9 ?_))))))))
  obtain rfl := sinj h
  exact Hc rfl rfl rfl rfl rfl ⟨_, hfr, _, _, _, rfl, Tp, rfl, rfl⟩
 refine Gy hc2 rfl (Zu (Zd (Z5 (Z4 rfl (Vd (g := g3) 3 (⟨0, 0⟩ : T0) (n := 16) (r := List.replicate 16 ⟨0, 0⟩) underlying164 Pr rfl (fun m w => ⟨_, Gk Zw Zw, rfl⟩) rfl rfl rfl fun g4 w4 v9 hs4 o9 => (Zg v9 rfl rfl (Z3 (Z5 ?_))))))))
 have m9 := o9.toM
 obtain ⟨ah, chh, hh9, _⟩ := m9.hdr
 refine Zn v9 rfl rfl (Zx (Iz 16) (show Pur _ _ _ (Iz ((16 : Nat) : Int)) from Dn underlying164 rfl ⟨ah, chh, hh9⟩) rfl (Z4 rfl (Vd (g := g4) 4 (⟨.slice none 0 0, rfl⟩ : Fv) (n := 16) (r := List.replicate 16 ⟨.slice none 0 0, rfl⟩) underlying72 Pc rfl (fun m w => ⟨_, rfl, rfl⟩) rfl rfl rfl fun g5 w5 v4 hs5 o4 => (Zg v4 rfl rfl ?_))))
 have ns0 : NS (RS (α := Str) 9) 4 5 g5 w5 104 (List.replicate 16 []) v4 := ⟨_, RO.ofOA o4, P9 16⟩
 have hfr := (hfr.stp hs4).stp hs5
 have q2 := (q2.stp hs4).stp hs5
 have rl := (rl.stp hs4).stp hs5
 have m9 := m9.stp hs5 rfl
 clear hx1 hx2 hx3 hs4 hs5 o9 o4 rm rp1 hh9 hck hjn hc hc2
 refine Z3 (Zf (Z5 (Zn lv rfl rfl (Zx (Iz (jn.1.length : Int)) (G3 (v := lv) underlying49 rfl rl) rfl (Zn (Iz 0) rfl rfl (Z3 (Zr (Vt h (fun (z : (List T0 × List (List Str)) × Int) e ds w' => ds = [] ∧ e 2 = p2 ∧ e 4 = v4 ∧ e 9 = v9 ∧ e 33 = lv ∧ e 34 = Iz (jn.1.length : Int) ∧ e 35 = Iz z.2 ∧ ∃ g', Fr gI wI g' w' ∧ Ch g5.m w5 g'.m w' ∧ OM 3 g' w' 167 z.1.1 v9 ∧ NS (RS (α := Str) 9) 4 5 g' w' 104 z.1.2 v4) ⟨rfl, rfl, rfl, rfl, rfl, rfl, rfl, g5, hfr, Ch.refl _ _, m9, ns0⟩ (fun X rec hrec => ?_)))))))))
 clear m9 ns0 hfr
 rintro ⟨⟨lo, ri⟩, n⟩ e ds w ⟨rfl, e2, e4, e9, e33, e34, e35, g, hfr, hch, ml, nr⟩ hk
 refine Z5 (Gd (.bool (decide (n < (jn.1.length : Int)))) e35 e34 rfl rfl (Z3 ?_))
 rcases Zt hk with ⟨hc, hk⟩ | ⟨hc, hk⟩
 ·refine Zf (Gx hc rfl (Zu (Zd ?_)))
  obtain ⟨c, hcl, hk⟩ := Z1 hk
  have rl1 := rl.ch hch
  have q1 := q2.ch hch
  refine Zf (Zr (Z5 (Zo e35 rfl (Zx (Gq lv n 5) (Zh (α := Z2) underlying49 sizeOf63 e33 rl1 e35 hcl) rfl (Z4 rfl (Z7 (g := g) isAgg63 sizeOf63 rfl (Gn rl1 hcl) fun vc rc => (Z4 rfl (Vn (g := g) 2 (⟨0, 0, 0, 0, 0⟩ : Z2) zeroValue63 (fun m w => ⟨_, Gk Zw (Gk Zw (Gk Zw (Gk Zw Zw))), rfl⟩) fun g2 w2 pc hs2 b2 => (Zg (Iz n) rfl rfl (Z4 rfl (Tx (g := g2) (v := vc) sizeOf63 rfl b2 rfl (rc.stp hs2) fun g3 w3 hs3 b3 => ?_)))))))))))
  obtain ⟨g4, hs4, qc⟩ := b3.pub
  have hfr := ((hfr.stp hs2).stp hs3).stp hs4
  have hch := hch.trans (hs2.ch.trans (hs3.ch.trans hs4.ch))
  have ml := ((ml.stp hs2 rfl).stp hs3 rfl).stp hs4 rfl
  have nr := ((nr.stp (Bj 9) hs2 rfl rfl).stp (Bj 9) hs3 rfl rfl).stp (Bj 9) hs4 rfl rfl
  have q1 := ((q1.stp hs2).stp hs3).stp hs4
  clear b2 b3 hs2 hs3 hs4 rl1 rc
  refine Z3 (Zf (Z5 (Zx (Gc pc 2) (Zc Jx rfl (PT.ptr qc)) rfl (Z4 rfl (Z7 (g := g4) isAgg3 sizeOf3 rfl (Zm Qs.1 qc) fun v r => ?_)))))
  obtain rfl := Zj.1 r
  refine Zx (Gc p2 1) (Zc Q9 e2 (PT.ptr q1)) rfl (Z4 rfl (Z7 (g := g4) isAgg37 sizeOf37 rfl (Zm Tt.1 q1) fun vch rch => (Zx (Iz (x0.Chains.length : Int)) (G3 (v := vch) underlying37 rfl rch) rfl (Gd (.bool (decide (c.Chain ≥ (x0.Chains.length : Int)))) rfl rfl rfl rfl (Zn (.bool (decide (c.Chain ≥ (x0.Chains.length : Int)))) rfl rfl ?_)))))
  rcases Bool.eq_false_or_eq_true (decide (c.Chain ≥ (x0.Chains.length : Int))) with hq | hq
  ·simp only [hq, cond_true] at hk
   iterate 6 refine Zz rfl rfl hq rfl rfl ?_
   refine Zx (.bool true) (Zl (b := decide (c.Chain ≥ (x0.Chains.length : Int))) rfl (Tc hq rfl)) rfl (Z3 ?_)
   obtain rfl := sinj hk
   refine Gx rfl rfl (Z5 (Zn (Iz n) rfl rfl (Zg (.slice none 0 0) rfl rfl (Zg (Iz n) rfl rfl (Zg (Iz 7) rfl rfl (Z3 (Z9 (Gf (G2 (Gf (Gf (G2 (Gf ?_)))))))))))))
   exact Hc rfl rfl rfl rfl rfl ⟨_, hfr, _, _, _, rfl, Tp, rfl, rfl⟩
  simp only [hq, cond_false] at hk
  refine Zy (Gc pc 3) (Zc Ur rfl (PT.ptr qc)) rfl rfl hq rfl (Ze (.yes2 rfl rfl hq) rfl (Z7 (g := g4) isAgg3 sizeOf3 rfl (Zm Wq.1 qc) fun v r => ?_))
  obtain rfl := Zj.1 r
  refine Zy (Gc p2 0) (Zc Qm e2 (PT.ptr q1)) rfl rfl hq rfl (Ze (.yes2 rfl rfl hq) rfl (Z7 (g := g4) isAgg36 sizeOf36 rfl (Zm Tl.1 q1) fun vti rti => (Zy (Iz (x0.Ties.length : Int)) (G3 (v := vti) underlying36 rfl rti) rfl rfl hq rfl (Zy (.bool (decide (c.Tie ≥ (x0.Ties.length : Int)))) (Gp rfl rfl rfl) rfl rfl hq rfl (Zx (.bool (decide (c.Tie ≥ (x0.Ties.length : Int)))) (Zl (b := decide (c.Chain ≥ (x0.Chains.length : Int))) rfl (Gz hq rfl)) rfl (Z3 ?_))))))
  rcases Zt hk with ⟨hq2, hk⟩ | ⟨hq2, hk⟩
  ·obtain rfl := sinj hk
   refine Gx hq2 rfl (Z5 (Zn (Iz n) rfl rfl (Zg (.slice none 0 0) rfl rfl (Zg (Iz n) rfl rfl (Zg (Iz 7) rfl rfl (Z3 (Z9 (Gf (G2 (Gf (Gf (G2 (Gf ?_)))))))))))))
   exact Hc rfl rfl rfl rfl rfl ⟨_, hfr, _, _, _, rfl, Tp, rfl, rfl⟩
  refine Gy hq2 rfl (Zu (Zd ?_))
  obtain ⟨cy, hcy, hk⟩ := Z1 hk
  obtain ⟨wv, hwv, hk⟩ := Z1 hk
  clear rch rti
  refine Zf (Zs (x := .tmp 57) isAgg3 sizeOf3 (Zm Tg.1 qc) fun v r hl1 => ?_)
  obtain rfl := Zj.1 r
  refine Zs (x := .tmp 2) isAgg39 sizeOf39 q1 fun vm rm hl2 => (Zs (x := .tmp 11) isAgg63 sizeOf63 qc fun vc rc hl3 => (Qk (g := g4) (n := 12) [0, 1, 2, 3, 4, 5, 7, 8, 9, 10, 11] [] [0, 1, 2, 3, 4, 5, 6, 7, 8, 9, 10, 11] rfl J3 (by kernel_rfl) fun wc hx hlt => (Z6 (c := v9) rfl rfl .plain (Zk e9) (Z6 (c := Gc pc 1) rfl rfl .plain (Zc Kh rfl (PT.ptr qc)) (Jc (c := Iz c.Loom) rfl rfl .plain hl1 rfl (Z6 (c := Gq v9 c.Loom 2) rfl rfl .plain (Ym (α := T0) underlying164 sizeOf167 rfl ml rfl hcy) (Jc (c := vm) rfl rfl .plain hl2 e2 (Jc (c := vc) rfl rfl .plain hl3 rfl (W7 rfl rfl .plain (Lm (g := g4) (i := 3) (vs := [Gq v9 c.Loom 2, vm, vc]) en96 (.cons rfl (.cons rfl (.cons rfl .nil))) (wk96 (ml.ext hx) hcy (rm.ext hx) (rc.ext hx) hwv) fun g5 w5 v5 hs5 hv5 => ?_))))))))))
  obtain ⟨y0, _, rfl, ry, rfl, ml5⟩ := hv5
  refine ⟨((hlt.stp hs5 rfl)).toW, ?_⟩
  refine Z6 (c := .tuple #[y0, Iz wv.2.1]) rfl rfl .plain (Zk rfl) (Z6 (c := y0) rfl rfl .plain (Zi rfl rfl) (Z6 (c := Iz wv.2.1) rfl rfl .plain (Zi rfl rfl) (Z6 (c := y0) rfl rfl .plain (Tv rfl) (Z6 (c := Iz wv.2.1) rfl rfl .plain (Tv rfl) (Q7 (Z3 ?_))))))
  replace hfr := (hfr.ext hx).stp hs5
  replace hch := (hch.trans hx.ch).trans hs5.ch
  replace nr := (nr.ext (Bj 9) hx).stp (Bj 9) hs5 rfl rfl
  replace qc := (qc.ext hx).stp hs5
  clear hx hs5 hlt rm rc hl1 hl2 hl3 ml q1
  refine Zf (Z5 (Zn (Iz wv.2.1) rfl rfl (Gd (.bool (wv.2.1 != (0 : Int))) rfl rfl rfl rfl (Z3 ?_))))
  rcases Zt hk with ⟨hq3, hk⟩ | ⟨hq3, hk⟩
  ·obtain rfl := sinj hk
   refine Gx hq3 rfl (Z5 (Zn (Iz n) rfl rfl (Zn (Iz wv.2.1) rfl rfl (Zg (.slice none 0 0) rfl rfl (Zg (Iz n) rfl rfl (Zg (Iz wv.2.1) rfl rfl (Z3 (Z9 (Gf (G2 (Gf (Gf (G2 (Gf ?_))))))))))))))
   exact Hc rfl rfl rfl rfl rfl ⟨_, hfr, _, _, _, rfl, Tp, rfl, rfl⟩
  refine Gy hq3 rfl (Zu (Zd ?_))
  obtain ⟨rw0, hrw, hk⟩ := Z1 hk
  obtain ⟨y, hy, hk⟩ := Z1 hk
  obtain ⟨rows, hro, hpo⟩ := nr
  obtain ⟨r0, hr0, hr1, hr2⟩ := hpo.idx hrw
  obtain ⟨g6, hg6, hs6, hrs, hpo6⟩ := hpo.take (Bj 9) hr1 hr2 6
  replace hro := hro.stp hs6 rfl
  replace hfr := hfr.stp hs6
  replace hch := hch.trans hs6.ch
  replace ml5 := ml5.stp hs6 rfl
  replace qc := qc.stp hs6
  replace ry := ry.stp hs6
  refine Zs (x := .tmp 70) isAgg3 sizeOf3 (Zm Tg.1 qc) fun v r hl1 => ?_
  obtain rfl := Zj.1 r
  refine Zs (x := .tmp 73) isAgg3 sizeOf3 (Zm Tg.1 qc) fun v r hl2 => ?_
  obtain rfl := Zj.1 r
  refine Nb (x := .tmp 75) isAgg104 sizeOf104 hro.toM hr0 fun u hu hl3 => ?_
  obtain rfl : u = r0.v := Xo.1 hu
  refine Qk (g := g6) (n := 10) [0, 1, 2, 3, 4, 5, 6, 7, 8] [4] [0, 1, 2, 3, 4, 5, 6, 7, 8, 9] rfl J3 (by kernel_rfl) fun wd hx hlt => (Z6 (c := v4) rfl rfl .plain (Zk e4) (Z6 (c := Gc pc 1) rfl rfl .plain (Zc Kh rfl (PT.ptr qc)) (Jc (c := Iz c.Loom) rfl rfl .plain hl1 rfl (Z6 (c := v4) rfl rfl .plain (Zk e4) (Z6 (c := Gc pc 1) rfl rfl .plain (Zc Kh rfl (PT.ptr qc)) (Jc (c := Iz c.Loom) rfl rfl .plain hl2 rfl (Z6 (c := Gq v4 c.Loom 1) rfl rfl .plain (Ym (α := Fv) underlying72 sizeOf104 rfl hro.toM rfl hr0) (Wu (n := 4) (c := r0.v) rfl rfl .plain hl3 rfl rfl (Z6 (c := y0) rfl rfl .plain (Zk rfl) (W7 rfl rfl .plain (Qd (g := g6) (i := 6) underlying104 D8 rfl rfl (hrs.1.ext hx) (hrs.2.ext hx) rfl (ry.ext hx) hy fun g7 w7 v7 hs7 o7 r7 _ => (⟨(hlt.stp hs7 rfl).toW, ?_⟩))))))))))))
  refine Q7 ?_
  have hro7 := (hro.ext hx).stp hs7 rfl
  refine Zx (Gq v4 c.Loom 1) (Ym (α := Fv) underlying72 sizeOf104 rfl hro7.toM rfl hr0) rfl (Z4 rfl (Pd (⟨v7, by obtain ⟨_, _, rfl, _⟩ := Qc r7; rfl⟩ : Fv) sizeOf104 rfl hro7 hr0 rfl fun w8 hs8 hro8 => ?_))
  obtain ⟨g9, hg9, hs9, hpo9⟩ := (((hpo6.ext (Bj 9) hx).stp (Bj 9) hs7 rfl).stp (Bj 9) hs8 rfl).put (Bj 9) (⟨v7, by obtain ⟨_, _, rfl, _⟩ := Qc r7; rfl⟩ : Fv) (x := y) (j' := 6) ⟨o7.stp hs8 rfl, r7.stp hs8⟩ rfl
  refine Zb (Th (Zd (Za (Gd (Iz (w64 (n + (1 : Int)))) e35 rfl rfl rfl (Zn (Iz (w64 (n + (1 : Int)))) rfl rfl ?_)))))
  exact Z3 (hrec ((lo.set c.Loom.toNat wv.2.2, ri.set c.Loom.toNat y), w64 (n + 1)) _ _ _ ⟨rfl, e2, e4, e9, e33, e34, rfl, g9, (((hfr.ext hx).stp hs7).stp hs8).stp hs9, hch.trans (hx.ch.trans (hs7.ch.trans (hs8.ch.trans hs9.ch))), (((ml5.ext hx).stp hs7 rfl).stp hs8 rfl).stp hs9 rfl, ⟨_, hro8.stp hs9 rfl, hpo9⟩⟩ hk)
 ·refine Zf (Gy hc rfl (Tu (G5 (G5 (Tf (Zd ?_))))))
  obtain rfl := sinj hk
  obtain ⟨g6, hs6, rr⟩ := nr.pub (fun h => h.2)
  refine Z5 (Zo e4 rfl (Zg v4 rfl rfl (Zg (Iz 0) rfl rfl (Zg (Iz 0) rfl rfl (Z3 (Z9 ?_))))))
  exact Hc rfl rfl rfl rfl rfl ⟨_, hfr.stp hs6, _, _, _, rfl, rr, rfl, rfl⟩

def RB (g : Gh) (w : World) (b T : Nat) (x : Tm) (tl : List Value) : Prop := HBm 1 g w b (.cells (x.text.v :: x.rest.v :: Iz x.line :: tl).toArray T (0, 0))
theorem Oh {P : Program} {e : Env} {x : Operand} {v : Value} {t : TypeId} (ht : ∀ w, (Instr.makeInterface t v).run P w = .ok (.iface t v) w) (hx : ev e x = v) : Pur P (.makeInterface t x) e (.iface t v) := fun _ _ _ _ _ _ => by
 simp [execOp, hx, ht]
theorem L9 (v : Value) (w : World) : (Instr.makeInterface 177 v).run prog w = .ok (.iface 177 v) w := by simp [Instr.makeInterface, Sem.run_bind, run_underlying underlying177, Result.andThen]
theorem P2 : T5 prog 177 = some ([Iz 0, Iz 0], [(0, 1), (1, 1)]) := by kernel_rfl
theorem Pb (g : Gh) (w : World) (k : Nat) : Ext g w g (w.drewN k) := ⟨⟨rfl, rfl, rfl, Nat.le_refl _, fun _ _ => rfl⟩, fun _ _ => rfl, fun _ _ => rfl⟩
theorem Wk : prog.follows .mixedOrders = true := by kernel_rfl
theorem Tw {P : Program} {e : Env} {x : Operand} {b o k : Nat} {s i : Nat} (hf : ∀ (a : Addr) w, (Instr.fieldAt s (.pointer (some a)) i).run P w = .ok (.pointer (some (a.add k))) w) (hx : ev e x = .pointer (some ⟨b, o, none⟩)) : Pur P (.fieldAddr s x i) e (.pointer (some ⟨b, o + k, none⟩)) := Zc hf hx ⟨_, _, rfl⟩
section
variable {gI : Gh} {wI : World} {b T : Nat} {x : Tm} {tl : List Value}
def f61 (x : Tm) (k : Int) : Option (PR Unit) := some (.pn x.line k)
theorem en61 : Enters prog 61 := enters_of func61 (by kernel_rfl) rfl
theorem wk61 (hb : RB gI wI b T x tl) {k : Int} {r : PR Unit} (h : f61 x k = some r) : FnS (Ext gI wI) prog 61 #[.pointer (some ⟨b, 0, none⟩), Iz k] wI (okR r fun _ _ _ v => v = .tuple #[]) (pnR 177 r) := by
 obtain rfl := sinj h;refine Hd func61 rfl (Nat.le_of_ble_eq_true rfl) ?_;show E _ 11 none _ _ _ _ _;refine Za (Zn (.pointer (some ⟨b, 0, none⟩)) rfl rfl (Zx (.pointer (some ⟨b, 0, none⟩)) (Z8 rfl) rfl (Zx (.pointer (some ⟨b, 2, none⟩)) (Tw Ky rfl) rfl (Z4 rfl (Qu isAgg3 rfl (hb.cell.trans rfl) (Zn (Iz k) rfl rfl (Zx (.agg #[Iz x.line, Iz k]) (T7 (vs := [(0, Iz x.line), (1, Iz k)]) [[Iz 0], [Iz 0]] P2 rfl rfl (.cons rfl (.cons rfl .nil)) ⟨⟨_, rfl, rfl⟩, ⟨⟨_, rfl, rfl⟩, trivial⟩⟩) rfl (Zx (.iface 177 (.agg #[Iz x.line, Iz k])) (Oh (L9 _) rfl) rfl ?_))))))));exact Oc .plain rfl (W0 rfl (Ext.refl gI wI))
def f64 (x : Tm) (c : Bool) : Option (PR Unit) := bif c then some (.ok ()) else bnd (f61 x 4) fun _ => some (.ok ())
theorem en64 : Enters prog 64 := enters_of func64 (by kernel_rfl) rfl
theorem wk64 (hb : RB gI wI b T x tl) {c : Bool} {r : PR Unit} (h : f64 x c = some r) : FnS (Ext gI wI) prog 64 #[.pointer (some ⟨b, 0, none⟩), .bool c] wI (okR r fun _ _ _ v => v = .tuple #[] ∧ c = true) (pnR 177 r) := by
 unfold f64 at h;refine Hd func64 rfl (Nat.le_of_ble_eq_true rfl) ?_;show E _ 8 none _ _ _ _ _;refine Z5 (Zn (.bool c) rfl rfl (Zx (.bool !c) (Qj rfl) rfl (Z3 ?_)));rcases Zt h with ⟨hc, h⟩ | ⟨hc, h⟩
 ·refine Gy (t := !c) (by rw [hc]; rfl) rfl (Zu ?_)
  obtain rfl := sinj h;exact Ho rfl rfl ⟨gI, Ext.refl _ _, (), rfl, rfl, hc⟩
 ·refine Gx (t := !c) (by rw [hc]; rfl) rfl (Za (Zn (.pointer (some ⟨b, 0, none⟩)) rfl rfl (Qn (vs := [.pointer (some ⟨b, 0, none⟩), Iz 4]) en61 (.cons rfl (.cons rfl .nil)) .plain rfl h (fun a ha => wk61 hb ha) (fun l e' g' w' hr hs => W0 hr hs) (fun y g' w' v hs hR hx hk => by cases hx))))

abbrev J7 := Fa 0 1 4 5
def f103 (s : Str) : Option (Str × Str × Bool) := bif decide (s.b.length < 4294967281) then some (match Y1 10 s.b with
 | none => (s, ⟨[]⟩, false)
 | some p => (⟨p.1⟩, ⟨p.2⟩, true)) else none
theorem en103 : Enters prog 103 := enters_of func103 (by kernel_rfl) rfl
theorem wk103 (hT : J7 gI.m wI) {s : Str} {r : Str × Str × Bool} (h : f103 s = some r) : Fn prog 103 #[s.v, Str.v ⟨[10]⟩] gI wI (fun _ _ v => v = .tuple #[r.1.v, r.2.1.v, .bool r.2.2]) := by
 rcases Zt h with ⟨hl, h⟩ | ⟨_, h⟩;rotate_left
 ·cases h
 injection h with h;obtain ⟨_, _, _, hm, n, rfl⟩ := hT.max;refine Calls.mono (Tryz.strings_Cut ⟨⟨s.b⟩⟩ ⟨⟨[10]⟩⟩ n wI (by have := of_decide_eq_true hl; exact this) hm) ?_;rintro e w' ⟨rfl, k, rfl⟩;refine ⟨_, rfl, gI, Pb gI wI k, ?_⟩;rw [Ny]
 cases hc : Y1 10 s.b with
 | none => rw [hc] at h; subst h; rfl
 | some p => rw [hc] at h; subst h; rfl
def f62 (x : Tm) : Option (PR (Str × Tm)) :=
 (f103 x.rest).bind fun c => bnd (f64 ⟨x.text, x.rest, w64 (x.line + 1)⟩ c.2.2) fun _ => some (.ok (c.1, ⟨x.text, c.2.1, w64 (x.line + 1)⟩))
theorem en62 : Enters prog 62 := enters_of func62 (by kernel_rfl) rfl
theorem wk62 (hT : J7 gI.m wI) (hb : RB gI wI b T x tl) {r : PR (Str × Tm)} (h : f62 x = some r) : FnS (Stp 1 gI wI) prog 62 #[.pointer (some ⟨b, 0, none⟩)] wI (okR r fun y g w v => v = y.1.v ∧ RB g w b T y.2 tl) (pnR 177 r) := by
 obtain ⟨c, hc, h⟩ := Z1 h;refine Hd func62 rfl (Nat.le_of_ble_eq_true rfl) ?_;show E _ 30 none _ _ _ _ _;refine Z5 (Zg (Str.v ⟨[]⟩) rfl rfl (Z3 (Z5 (Zn (.pointer (some ⟨b, 0, none⟩)) rfl rfl (Zx (.pointer (some ⟨b, 0, none⟩)) (Z8 rfl) rfl (Zx (.pointer (some ⟨b, 2, none⟩)) (Tw Ky rfl) rfl (Z4 rfl (Qu isAgg3 rfl (hb.cell.trans rfl) (Gd (Iz (w64 (x.line + 1))) rfl rfl rfl rfl (Zx (.pointer (some ⟨b, 0, none⟩)) (Z8 rfl) rfl (Zx (.pointer (some ⟨b, 2, none⟩)) (Tw Ky rfl) rfl (Z4 rfl (Kc (c := Iz (w64 (x.line + 1))) sizeOf3 rfl rfl rfl (by simp) hb fun w1 hs1 hb1 _ => ?_)))))))))))));have hb1 : RB gI w1 b T ⟨x.text, x.rest, w64 (x.line + 1)⟩ tl := hb1;refine Z3 (Z5 (Zn (.pointer (some ⟨b, 0, none⟩)) rfl rfl (Zx (.pointer (some ⟨b, 0, none⟩)) (Z8 rfl) rfl (Zx (.pointer (some ⟨b, 1, none⟩)) (Tw Ua rfl) rfl (Z4 rfl (Qu isAgg9 rfl (hb1.cell.trans rfl) (Z4 rfl (Zp (g := gI) (vs := [x.rest.v, Str.v ⟨[10]⟩]) en103 (.cons rfl (.cons rfl .nil)) (wk103 (hT.ch hs1.ch) hc) fun g2 w2 v hs2 hv => ?_))))))));subst hv;have hb2 := hb1.ext hs2;refine Zn (.tuple #[c.1.v, c.2.1.v, .bool c.2.2]) rfl rfl (Zx c.1.v (Zi rfl rfl) rfl (Zx c.2.1.v (Zi rfl rfl) rfl (Zx (.bool c.2.2) (Zi rfl rfl) rfl (Zg c.1.v rfl rfl (Zg c.2.1.v rfl rfl (Zg (.bool c.2.2) rfl rfl (Z3 (Z5 (Zn (.pointer (some ⟨b, 0, none⟩)) rfl rfl (Zn (.bool c.2.2) rfl rfl (Qn (vs := [.pointer (some ⟨b, 0, none⟩), .bool c.2.2]) en64 (.cons rfl (.cons rfl .nil)) .plain rfl h (fun a ha => wk64 hb2 ha) (fun l e' g' w' hr hs => W0 hr (hs1.trans (hs2.stp.trans hs.stp))) (fun y g3 w3 v hs3 hR hx hk => ?_))))))))))));obtain ⟨rfl, _⟩ := hR;have hb3 := hb2.ext hs3;obtain rfl := sinj hk;refine Z3 (Z5 (Zn (.pointer (some ⟨b, 0, none⟩)) rfl rfl (Zn c.2.1.v rfl rfl (Zx (.pointer (some ⟨b, 0, none⟩)) (Z8 rfl) rfl (Zx (.pointer (some ⟨b, 1, none⟩)) (Tw Ua rfl) rfl (Z4 rfl (Kc (c := c.2.1.v) sizeOf9 rfl rfl rfl (by simp) hb3 fun w4 hs4 hb4 _ => (Z3 (Z5 (Zn c.1.v rfl rfl (Zg c.1.v rfl rfl (Z3 (Z9 ?_)))))))))))));exact G0 rfl rfl rfl ⟨g3, hs1.trans (hs2.stp.trans (hs3.stp.trans hs4)), _, rfl, rfl, hb4⟩

theorem U6 {P : Program} {e : Env} {x : Operand} {t t2 : TypeId} {v : Value} {b : Bool} (ht : P.underlying t = some (.interface (P.methodsAt t))) (hx : ev e x = v) (hv : (v = .nilIface ∧ b = true) ∨ ((∃ te pe, v = .iface te pe) ∧ b = false)) : Pur P (.binOp .eql t x (.const .nilIface) t2) e (.bool b) :=
 H6 hx rfl (fun w => by
  rcases hv with ⟨rfl, _⟩ | ⟨⟨te, pe, rfl⟩, _⟩
  ·show (eqGuard .eql t x (.const .nilIface) .nilIface .nilIface).run P w = _
   rw [eqGuard_nil_constR]; rfl
  ·show (eqGuard .eql t x (.const .nilIface) (.iface te pe) .nilIface).run P w = _
   cases x <;> rfl) (fun w => by
  rcases hv with ⟨rfl, rfl⟩ | ⟨⟨te, pe, rfl⟩, rfl⟩
  ·exact run_eql_nil_nil _ _ ht
  ·exact run_eql_held_nil _ _ _ _ ht)
theorem itR_ok : ItOk prog 116 1 := fun n h0 h1 w hT => Tryz.strconv_Itoa n h0 h1 w (Ct (by kernel_rfl) hT)
theorem wk116 (hT : J7 gI.m wI) {n : Int} {s : Str} (h : Se n = some s) : Fn prog 116 #[Iz n] gI wI (fun _ _ v => v = s.v) := by
 unfold Se at h;split at h
 case isFalse => cases h
 rename_i hc;injection h with h;subst h;refine Calls.mono (itR_ok n hc.1 hc.2 wI hT.tab.2.2) ?_;rintro e w' ⟨rfl, q, os, rfl⟩;exact ⟨_, rfl, gI, Cg gI wI q os, rfl⟩
theorem en157 : Enters prog 157 := enters_of func157 (by kernel_rfl) rfl
theorem Ph (g : Gh) (w : World) (t : TypeId) (s : ByteArray) : Ext g w g (Lib.bytesWorld w t s) := ⟨Lib.bytesWorld_below _ _ _, fun _ _ => rfl, fun _ _ => rfl⟩
theorem wk157 (hT : J7 gI.m wI) {s : Str} (hl : s.b.length ≤ 281474976710656) : Fn prog 157 #[s.v] gI wI (fun _ _ v => match Lib.atoiAll s.b with
  | .ok n => v = .tuple #[Iz n, .nilIface]
  | _ => ∃ n te pe, v = .tuple #[Iz n, .iface te pe]) := by
 have hsz : (⟨⟨s.b⟩⟩ : ByteArray).size = s.b.length := rfl
 cases hc : Lib.atoiAll s.b with
 | ok n =>
  refine Calls.mono (Tryz.strconv_Atoi_ok ⟨⟨s.b⟩⟩ (by omega) n hc wI) ?_
  rintro e w' ⟨rfl, rfl | ⟨t, rfl⟩⟩
  ·exact ⟨_, rfl, gI, Ext.refl _ _, rfl⟩
  ·exact ⟨_, rfl, gI, Ph _ _ _ _, rfl⟩
 | «syntax» =>
  obtain ⟨_, _, ev', h1, h2⟩ := hT.syn
  refine Calls.mono (Tryz.strconv_Atoi_syntax ⟨⟨s.b⟩⟩ (by omega) hc ev' wI h1 h2) ?_
  rintro e w' ⟨N, rfl, _, _, hb⟩
  exact ⟨_, rfl, gI, ⟨hb, fun _ _ => rfl, fun _ _ => rfl⟩, _, _, _, rfl⟩
 | range =>
  obtain ⟨_, _, ev', h1, h2⟩ := hT.rng
  refine Calls.mono (Tryz.strconv_Atoi_range ⟨⟨s.b⟩⟩ (by omega) hc ev' wI h1 h2) ?_
  rintro e w' ⟨N, rfl, _, _, hb⟩
  exact ⟨_, rfl, gI, ⟨hb, fun _ _ => rfl, fun _ _ => rfl⟩, _, _, _, rfl⟩
def O1 (s : Str) (v : Int) : Option Bool := bif decide ((s.b.length : Int) ≤ 6) then (bif decide (v ≥ 0) then (Se v).bind fun z => some (z.b == s.b) else some false) else some false
def f124 (x : Tm) (s : Str) : Option (PR Int) :=
 bif decide (s.b.length ≤ 281474976710656) then
  match Lib.atoiAll s.b with
  | .ok v => (O1 s v).bind fun c => bnd (f64 x c) fun _ => some (.ok v)
  | _ => bnd (f64 x false) fun _ => some (.ok 0)
 else none
theorem en124 : Enters prog 124 := enters_of func124 (by kernel_rfl) rfl
theorem wk124 (hT : J7 gI.m wI) (hb : RB gI wI b T x tl) {s : Str} {r : PR Int} (h : f124 x s = some r) : FnS (Ext gI wI) prog 124 #[.pointer (some ⟨b, 0, none⟩), s.v] wI (okR r fun y _ _ v => v = Iz y) (pnR 177 r) := by
 rcases Zt h with ⟨hl, h⟩ | ⟨_, h⟩;rotate_left
 ·cases h
 refine Hd func124 rfl (Nat.le_of_ble_eq_true rfl) ?_;show E _ 32 none _ _ _ _ _;refine Z5 (Zg (Iz 0) rfl rfl (Z3 (Z5 (Zn s.v rfl rfl (Z4 rfl (Zp (g := gI) (vs := [s.v]) en157 (.cons rfl .nil) (wk157 hT (of_decide_eq_true hl)) fun g1 w1 v hs1 hv => ?_))))));have hb1 := hb.ext hs1;have hT1 := hT.ch hs1.ch
 cases hc : Lib.atoiAll s.b with
 | ok n =>
  rw [hc] at h hv;subst hv;obtain ⟨c, hcc, h⟩ := Z1 h;refine Zn (.tuple #[Iz n, .nilIface]) rfl rfl (Zx (Iz n) (Zi rfl rfl) rfl (Zx .nilIface (Zi rfl rfl) rfl (Zg (Iz n) rfl rfl (Zg .nilIface rfl rfl (Z3 (Z5 (Zn (.pointer (some ⟨b, 0, none⟩)) rfl rfl (Zn .nilIface rfl rfl (Zx (.bool true) (U6 (by kernel_rfl) rfl (.inl ⟨rfl, rfl⟩)) rfl (Zn (.bool true) rfl rfl (Zy s.v (Zk rfl) rfl rfl rfl rfl (Zy (Iz (s.b.length : Int)) (H8 underlying9 rfl) rfl rfl rfl rfl (Zy (.bool (decide ((s.b.length : Int) ≤ 6))) (Gp rfl rfl rfl) rfl rfl rfl rfl (Zx (.bool (decide ((s.b.length : Int) ≤ 6))) (Zl rfl rfl) rfl (Zn (.bool (decide ((s.b.length : Int) ≤ 6))) rfl rfl ?_)))))))))))))));unfold O1 at hcc;rcases Zt hcc with ⟨h6, hcc⟩ | ⟨h6, hcc⟩
  ·refine Zy (Iz n) (Zk rfl) rfl rfl h6 rfl (Zy (.bool (decide (n ≥ 0))) (Gp rfl rfl rfl) rfl rfl h6 rfl (Zx (.bool (decide (n ≥ 0))) (Zl rfl (by rw [h6]; rfl)) rfl (Zn (.bool (decide (n ≥ 0))) rfl rfl ?_)))
   rcases Zt hcc with ⟨h0, hcc⟩ | ⟨h0, hcc⟩
   ·obtain ⟨z, hz, hcc⟩ := Z1 hcc
    obtain rfl := sinj hcc;refine Zy (Iz n) (Zk rfl) rfl rfl h0 rfl (Ze (.yes2 rfl rfl h0) rfl (Zp (g := g1) (vs := [Iz n]) en116 (.cons rfl .nil) (wk116 hT1 hz) fun g2 w2 v hs2 hv => ?_));subst hv;have hb2 := hb1.ext hs2;refine Zy s.v (Zk rfl) rfl rfl h0 rfl (Zy (.bool (z.b == s.b)) (W2 rfl rfl rfl) rfl rfl h0 rfl (Zx (.bool (z.b == s.b)) (Zl rfl (by rw [h0]; rfl)) rfl (Qn (vs := [.pointer (some ⟨b, 0, none⟩), .bool (z.b == s.b)]) en64 (.cons rfl (.cons rfl .nil)) .plain rfl h (fun a ha => wk64 hb2 ha) (fun l e' g' w' hr hs => W0 hr ((hs1.trans hs2).trans hs)) (fun y g3 w3 v hs3 hR hx hk => ?_))));obtain ⟨rfl, hf⟩ := hR;have _h := hf;obtain rfl := sinj hk;refine Z3 (Z5 (Zn (Iz n) rfl rfl (Zg (Iz n) rfl rfl (Z3 (Z9 ?_)))));exact G0 rfl rfl rfl ⟨g3, (hs1.trans hs2).trans hs3, _, rfl, rfl⟩
   ·obtain rfl := sinj hcc
    have hb2 := hb1;refine Zz rfl rfl h0 rfl rfl (Zz rfl rfl h0 rfl rfl (Zz rfl rfl h0 rfl rfl (Zz rfl rfl h0 rfl rfl (Zx (.bool false) (Zl rfl (by rw [h0]; rfl)) rfl (Qn (vs := [.pointer (some ⟨b, 0, none⟩), .bool false]) en64 (.cons rfl (.cons rfl .nil)) .plain rfl h (fun a ha => wk64 hb1 ha) (fun l e' g' w' hr hs => W0 hr (hs1.trans hs)) (fun y g3 w3 v hs3 hR hx hk => ?_))))));obtain ⟨_, hf⟩ := hR
    cases hf
  ·obtain rfl := sinj hcc
   refine Zz rfl rfl h6 rfl rfl (Zz rfl rfl h6 rfl rfl (Zx (.bool false) (Zl rfl (by rw [h6]; rfl)) rfl (Zn (.bool false) rfl rfl (Zz rfl rfl (c' := false) rfl rfl rfl (Zz rfl rfl (c' := false) rfl rfl rfl (Zz rfl rfl (c' := false) rfl rfl rfl (Zz rfl rfl (c' := false) rfl rfl rfl (Zx (.bool false) (Zl rfl rfl) rfl (Qn (vs := [.pointer (some ⟨b, 0, none⟩), .bool false]) en64 (.cons rfl (.cons rfl .nil)) .plain rfl h (fun a ha => wk64 hb1 ha) (fun l e' g' w' hr hs => W0 hr (hs1.trans hs)) (fun y g3 w3 v hs3 hR hx hk => ?_))))))))));obtain ⟨_, hf⟩ := hR
   cases hf
 | «syntax» =>
  rw [hc] at h hv;obtain ⟨n, te, pe, rfl⟩ := hv;refine Zn (.tuple #[Iz n, .iface te pe]) rfl rfl (Zx (Iz n) (Zi rfl rfl) rfl (Zx (.iface te pe) (Zi rfl rfl) rfl (Zg (Iz n) rfl rfl (Zg (.iface te pe) rfl rfl (Z3 (Z5 (Zn (.pointer (some ⟨b, 0, none⟩)) rfl rfl (Zn (.iface te pe) rfl rfl (Zx (.bool false) (U6 (by kernel_rfl) rfl (.inr ⟨⟨_, _, rfl⟩, rfl⟩)) rfl (Zn (.bool false) rfl rfl (Zz rfl rfl (c' := false) rfl rfl rfl (Zz rfl rfl (c' := false) rfl rfl rfl (Zz rfl rfl (c' := false) rfl rfl rfl (Zx (.bool false) (Zl rfl rfl) rfl (Zn (.bool false) rfl rfl (Zz rfl rfl (c' := false) rfl rfl rfl (Zz rfl rfl (c' := false) rfl rfl rfl ?_)))))))))))))))));refine Zx (.bool false) (Zl rfl rfl) rfl (Zn (.bool false) rfl rfl (Zz rfl rfl (c' := false) rfl rfl rfl (Zz rfl rfl (c' := false) rfl rfl rfl (Zz rfl rfl (c' := false) rfl rfl rfl (Zz rfl rfl (c' := false) rfl rfl rfl (Zx (.bool false) (Zl rfl rfl) rfl (Qn (vs := [.pointer (some ⟨b, 0, none⟩), .bool false]) en64 (.cons rfl (.cons rfl .nil)) .plain rfl h (fun a ha => wk64 hb1 ha) (fun l e' g' w' hr hs => W0 hr (hs1.trans hs)) (fun y g3 w3 v hs3 hR hx hk => ?_))))))));obtain ⟨_, hf⟩ := hR
  cases hf
 | range =>
  rw [hc] at h hv;obtain ⟨n, te, pe, rfl⟩ := hv;refine Zn (.tuple #[Iz n, .iface te pe]) rfl rfl (Zx (Iz n) (Zi rfl rfl) rfl (Zx (.iface te pe) (Zi rfl rfl) rfl (Zg (Iz n) rfl rfl (Zg (.iface te pe) rfl rfl (Z3 (Z5 (Zn (.pointer (some ⟨b, 0, none⟩)) rfl rfl (Zn (.iface te pe) rfl rfl (Zx (.bool false) (U6 (by kernel_rfl) rfl (.inr ⟨⟨_, _, rfl⟩, rfl⟩)) rfl (Zn (.bool false) rfl rfl (Zz rfl rfl (c' := false) rfl rfl rfl (Zz rfl rfl (c' := false) rfl rfl rfl (Zz rfl rfl (c' := false) rfl rfl rfl (Zx (.bool false) (Zl rfl rfl) rfl (Zn (.bool false) rfl rfl (Zz rfl rfl (c' := false) rfl rfl rfl (Zz rfl rfl (c' := false) rfl rfl rfl ?_)))))))))))))))));refine Zx (.bool false) (Zl rfl rfl) rfl (Zn (.bool false) rfl rfl (Zz rfl rfl (c' := false) rfl rfl rfl (Zz rfl rfl (c' := false) rfl rfl rfl (Zz rfl rfl (c' := false) rfl rfl rfl (Zz rfl rfl (c' := false) rfl rfl rfl (Zx (.bool false) (Zl rfl rfl) rfl (Qn (vs := [.pointer (some ⟨b, 0, none⟩), .bool false]) en64 (.cons rfl (.cons rfl .nil)) .plain rfl h (fun a ha => wk64 hb1 ha) (fun l e' g' w' hr hs => W0 hr (hs1.trans hs)) (fun y g3 w3 v hs3 hR hx hk => ?_))))))));obtain ⟨_, hf⟩ := hR
  cases hf
def P3 (s : Str) : Int := Lib.lastIndexByte ⟨⟨s.b⟩⟩ 10
theorem en158 : Enters prog 158 := enters_of func158 (by kernel_rfl) rfl
theorem wk158 {s : Str} (hl : s.b.length < 4611686018427387904) : Fn prog 158 #[s.v, .int .u8 10] gI wI (fun _ _ v => v = Iz (P3 s)) := by
 refine Calls.mono (Tryz.strings_LastIndexByte ⟨⟨s.b⟩⟩ 10 hl wI) ?_;rintro e w' ⟨rfl, rfl⟩;exact ⟨_, rfl, gI, Ext.refl _ _, rfl⟩
def f126 (x : Tm) : Option Str :=
 (cut x.text.b 0 (w64 ((x.text.b.length : Int) - (x.rest.b.length : Int)))).bind fun s => (cut s 0 (w64 ((s.length : Int) - (1 : Int)))).bind fun u =>
  bif decide (u.length < 4611686018427387904) then (cut s 0 (w64 ((1 : Int) + P3 ⟨u⟩))).bind fun z => some ⟨z⟩ else none
theorem en126 : Enters prog 126 := enters_of func126 (by kernel_rfl) rfl
theorem wk126 (hb : RB gI wI b T x tl) {r : Str} (h : f126 x = some r) : Calls prog 126 #[.pointer (some ⟨b, 0, none⟩)] wI fun e w' => ∃ v, e = .returned v ∧ ∃ g', Ext gI wI g' w' ∧ v = r.v := by
 obtain ⟨s, hs, h⟩ := Z1 h;obtain ⟨u, hu, h⟩ := Z1 h;rcases Zt h with ⟨hl, h⟩ | ⟨_, h⟩;rotate_left
 ·cases h
 obtain ⟨z, hz, h⟩ := Z1 h;obtain rfl := sinj h;refine Qp func126 rfl (Nat.le_of_ble_eq_true rfl) ?_;show E _ 29 none _ _ _ _ _;refine Z5 (Zg (Str.v ⟨[]⟩) rfl rfl (Z3 (Zf ?_)));have l0 := Jo (x := .tmp 6) isAgg9 hb (o := 0) (c := x.text.v) rfl;refine Qk (g := gI) (n := 16) [0, 1, 2, 3, 4, 5, 6, 7, 8, 9, 10, 11, 12, 13, 14, 15] [1] [0, 1, 2, 3, 4, 5, 6, 7, 8, 9, 10, 11, 12, 13, 14, 15] rfl Wk (by kernel_rfl) fun wc hx hlt => (Z6 (c := .pointer (some ⟨b, 0, none⟩)) rfl rfl .plain (Zk rfl) (Z6 (c := .pointer (some ⟨b, 0, none⟩)) rfl rfl .plain (Z8 rfl) (Z6 (c := .pointer (some ⟨b, 0, none⟩)) rfl rfl .plain (Tw Rw rfl) (Wu (n := 1) (c := x.text.v) rfl rfl .plain (Jo isAgg9 hb (o := 0) rfl _) rfl rfl (Z6 (c := .pointer (some ⟨b, 0, none⟩)) rfl rfl .plain (Zk rfl) (Z6 (c := .pointer (some ⟨b, 0, none⟩)) rfl rfl .plain (Z8 rfl) (Z6 (c := .pointer (some ⟨b, 0, none⟩)) rfl rfl .plain (Tw Rw rfl) (Wu (n := 1) (c := x.text.v) rfl rfl .plain (Jo isAgg9 hb (o := 0) rfl _) rfl rfl (Z6 (c := Iz (x.text.b.length : Int)) rfl rfl .plain (H8 underlying9 rfl) (Z6 (c := .pointer (some ⟨b, 0, none⟩)) rfl rfl .plain (Zk rfl) (Z6 (c := .pointer (some ⟨b, 0, none⟩)) rfl rfl .plain (Z8 rfl) (Z6 (c := .pointer (some ⟨b, 1, none⟩)) rfl rfl .plain (Tw Ua rfl) (Wu (n := 1) (c := x.rest.v) rfl rfl .plain (Jo isAgg9 hb (o := 1) rfl _) rfl rfl (Z6 (c := Iz (x.rest.b.length : Int)) rfl rfl .plain (H8 underlying9 rfl) (Z6 (c := Iz (w64 ((x.text.b.length : Int) - (x.rest.b.length : Int)))) rfl rfl .plain (Gp rfl rfl rfl) (Z6 (c := Str.v ⟨s⟩) rfl rfl .plain (Dm underlying9 rfl rfl rfl hs) ?_))))))))))))))));refine Q7 (Zg (Str.v ⟨s⟩) rfl rfl (Z3 (Z5 (Zn (Str.v ⟨s⟩) rfl rfl (Zn (Str.v ⟨s⟩) rfl rfl (Zn (Str.v ⟨s⟩) rfl rfl (Zx (Iz (s.length : Int)) (H8 (s := ⟨s⟩) underlying9 rfl) rfl (Gd (Iz (w64 ((s.length : Int) - (1 : Int)))) rfl rfl rfl rfl (Zx (Str.v ⟨u⟩) (Dm (s := ⟨s⟩) underlying9 rfl rfl rfl hu) rfl (Z4 rfl (Zp (g := gI) (vs := [Str.v ⟨u⟩, .int .u8 10]) en158 (.cons rfl (.cons rfl .nil)) (wk158 (s := ⟨u⟩) (of_decide_eq_true hl)) fun g2 w2 v hs2 hv => ?_)))))))))));subst hv;refine Gd (Iz (w64 ((1 : Int) + P3 ⟨u⟩))) rfl rfl rfl rfl (Zx (Str.v ⟨z⟩) (Dm (s := ⟨s⟩) underlying9 rfl rfl rfl hz) rfl (Zg (Str.v ⟨z⟩) rfl rfl (Z3 (Z9 ?_))));exact G0 rfl rfl rfl ⟨g2, hx.trans hs2, rfl⟩
end

structure Bh (g : Gh) (w : World) (g' : Gh) (w' : World) : Prop where
 os : w'.os = w.os
 tape : w'.tape = w.tape
 output : w'.output = w.output
 ch : Ch g.m w g'.m w'
 block : ∀ b, b < w.heap.size → g.o b = 0 → w'.heap[b]? = w.heap[b]?
 m : ∀ b, b < w.heap.size → g.o b = 0 → g'.m b = g.m b
 o : ∀ b, b < w.heap.size → g.o b = 0 → g'.o b = 0
theorem Bh.trans {g g' g'' : Gh} {w w' w'' : World} (h : Bh g w g' w') (k : Bh g' w' g'' w'') : Bh g w g'' w'' :=
  have hlt : ∀ b, b < w.heap.size → b < w'.heap.size := fun b hb => Nat.lt_of_lt_of_le hb h.ch.size
  ⟨k.os.trans h.os, k.tape.trans h.tape, k.output.trans h.output, h.ch.trans k.ch,
   fun b hb hn => (k.block b (hlt b hb) (h.o b hb hn)).trans (h.block b hb hn), fun b hb hn => (k.m b (hlt b hb) (h.o b hb hn)).trans (h.m b hb hn), fun b hb hn => k.o b (hlt b hb) (h.o b hb hn)⟩
theorem Ext.stpZ {g g' : Gh} {w w' : World} (h : Ext g w g' w') : Bh g w g' w' := ⟨h.below.os, h.below.tape, h.below.output, h.ch, fun b hb _ => h.below.block b hb, fun b hb _ => h.m b hb, fun b hb hn => (h.o b hb).trans hn⟩
theorem Stp.stpZ {i : Nat} {g g' : Gh} {w w' : World} (h : Stp i g w g' w') (hi : Nat.beq i 0 = false) : Bh g w g' w' := by
 have hne : ∀ b, g.o b = 0 → g.o b ≠ i := fun b h0 he => by rw [h0] at he; subst he; cases hi
 exact ⟨h.os, h.tape, h.output, h.ch, fun b hb hn => h.block b hb (hne b hn), fun b hb hn => h.m b hb (hne b hn), fun b hb hn => (h.o b hb (hne b hn)).trans hn⟩
theorem Bk.stpZ {g g' : Gh} {w w' : World} (h : Bk g w g' w') : Bh g w g' w' :=
 ⟨h.os, h.tape, h.output, h.ch, fun b hb hn => h.block b hb (by rw [hn]; rfl), fun b hb hn => h.m b hb (by rw [hn]; rfl), fun b hb hn => (h.o b hb (by rw [hn]; rfl)).trans hn⟩
theorem Fr.stpZ {g0 g g' : Gh} {w0 w w' : World} (h : Fr g0 w0 g w) (k : Bh g w g' w') : Fr g0 w0 g' w' :=
  have hlt : ∀ b, b < w0.heap.size → b < w.heap.size := fun b hb => Nat.lt_of_lt_of_le hb h.below.size
  ⟨h.below.trans ⟨k.os, k.tape, k.output, k.ch.size, fun b hb => k.block b (hlt b hb) (h.o b hb)⟩,
   fun b hb => (k.m b (hlt b hb) (h.o b hb)).trans (h.m b hb), fun b hb => k.o b (hlt b hb) (h.o b hb)⟩
theorem Xl {e : Env} {x : Operand} {v : Value} (hx : ev e x = .iface 177 v) : Pur prog (.typeAssert x 20 177 true) e (.tuple #[v, .bool true]) := fun _ _ _ _ _ _ => by
 simp [execOp, hx, Instr.typeAssert, Sem.run_bind, run_underlying underlying177, Result.andThen]
theorem Uk {m : Nat → Nat} {w : World} (l k : Int) : GoT.rep m w (⟨l, k⟩ : W6) [Iz l, Iz k] := ⟨[_], [_], rfl, rfl, rfl⟩
theorem Ol {P : Program} {fn : Func} {t0 t1 t2 : Tmp} {y0 y1 y2 : TypeId} {α : Type} [GoT α] {i j n : Nat} {d : α} {l k : Int} {g : Gh} {w : World} {p2 p3 p4 : Value} {tmps : Array Value} (hres : fn.results = #[.cell t0 y0, .cell t1 y1, .cell t2 y2]) (b2 : OB i g w y0 d p2) (b3 : OB j g w y1 l p3) (b4 : OB n g w y2 k p4)
  (a0 : ∀ w, (isAgg y0).run P w = .ok (GoT.agg α) w) (s0 : ∀ w, (sizeOf y0).run P w = .ok (GoT.k α) w) (a1 : ∀ w, (isAgg y1).run P w = .ok false w) (s1 : ∀ w, (sizeOf y1).run P w = .ok 1 w) (a2 : ∀ w, (isAgg y2).run P w = .ok false w) (s2 : ∀ w, (sizeOf y2).run P w = .ok 1 w)
  (h0 : tmps.getD t0 undef = p2) (h1 : tmps.getD t1 undef = p3) (h2 : tmps.getD t2 undef = p4) : ∃ v, RV g.m w d v ∧ (results fn tmps).run P w = .ok (.tuple #[v, Iz l, Iz k]) w := by
 obtain ⟨c2, cs2, rfl, _, _, hh2, hr2⟩ := b2
 obtain ⟨c3, cs3, rfl, _, _, hh3, hr3⟩ := b3
 obtain ⟨c4, cs4, rfl, _, _, hh4, hr4⟩ := b4
 have l2 := T3 (P := P) (b := c2) (off := 0) a0 s0 hr2 (fun j c hj => by simpa [World.cell?, hh2] using hj)
 have l3 := T3 (P := P) (α := Int) (b := c3) (off := 0) a1 s1 hr3 (fun j c hj => by simpa [World.cell?, hh3] using hj)
 have l4 := T3 (P := P) (α := Int) (b := c4) (off := 0) a2 s2 hr4 (fun j c hj => by simpa [World.cell?, hh4] using hj)
 have e3 : cs3.toList = [Iz l] := hr3
 have e4 : cs4.toList = [Iz k] := hr4
 rw [e3] at l3
 rw [e4] at l4
 refine ⟨_, ⟨_, hr2, rfl⟩, ?_⟩
 simp only [Array.getD_eq_getD_getElem?] at h0 h1 h2
 have hq : ∀ (a : Addr), (asAddr (.pointer (some a))).run P w = .ok a w := fun _ => rfl
 simp [results, hres, h0, h1, h2, l2, l3, l4, hq]
 exact ⟨rfl, rfl⟩
section
variable {gI : Gh} {wI : World}

/-! ### caught at Tb -/
theorem Um : ∀ m w, RV m w (⟨0, []⟩ : Tb) (.agg #[Iz 0, .slice none 0 0]) := fun m w => ⟨_, (⟨[_], _, rfl, rfl, Q0⟩ : GoT.rep m w ((0, []) : Int × List Int) _), rfl⟩
theorem en102 : ∀ args w, (callFunc 102 args).run prog w = .ok (.enter 102 args) w := enters_of func102 (by kernel_rfl) rfl
theorem M5 {p2 p3 p4 : Value} {w : World} : CallsDIn Fence.wide 0 prog 102 #[p2, p3, p4] .returning w fun e u' w' => u' = .returning ∧ ∃ x, e = .returned x ∧ w' = w := by
 refine Yp func102 rfl (Nat.le_of_ble_eq_true rfl) rfl .none ?_;show E _ 18 none _ _ _ _ _;refine Zr (Z5 (Zx (.bool true) (U6 (by kernel_rfl) rfl (.inl ⟨rfl, rfl⟩)) rfl (Z3 (Gx rfl rfl (Za (Zg .nilIface rfl rfl ?_))))));exact Zb (Ho rfl rfl rfl)
theorem Nn {g : Gh} {w : World} {p2 p3 p4 : Value} {d0 : Tb} {l0 k0 l k : Int} {older : List PanicEntry} (h2 : OB 5 g w 24 d0 p2) (h3 : OB 6 g w 3 l0 p3) (h4 : OB 7 g w 27 k0 p4) :
  CallsDIn Fence.wide 0 prog 102 #[p2, p3, p4] (.panicking ({ v := .iface 177 (.agg #[Iz l, Iz k]), recovered := false } :: older)) w fun e u' w' =>
   u' = .panicking ({ v := .iface 177 (.agg #[Iz l, Iz k]), recovered := true } :: older) ∧ ∃ x, e = .returned x ∧ ∃ g', Bh g w g' w' ∧ OB 5 g' w' 24 (⟨0, []⟩ : Tb) p2 ∧ OB 6 g' w' 3 l p3 ∧ OB 7 g' w' 27 k p4 := by
 refine Yp func102 rfl (Nat.le_of_ble_eq_true rfl) rfl (.some _ _) ?_
 show E _ 18 none _ _ _ _ _
 refine Zr (Z5 (Zx (.bool false) (U6 (by kernel_rfl) rfl (.inr ⟨⟨_, _, rfl⟩, rfl⟩)) rfl (Z3 (Gy rfl rfl (Z5 (Zx (.tuple #[.agg #[Iz l, Iz k], .bool true]) (Xl rfl) rfl (Zx (.bool true) (Zi rfl rfl) rfl (Zx (.agg #[Iz l, Iz k]) (Zi rfl rfl) rfl (Z3 (Gx rfl rfl (Z5 (Z4 rfl (Wg (g := g) 9 (⟨0, 0⟩ : W6) zeroValue177 (fun m w => ⟨_, Uk 0 0, rfl⟩) fun g1 w1 p5 hs1 b5 => (Z4 rfl (Tx (g := g1) (a' := (⟨l, k⟩ : W6)) (v := .agg #[Iz l, Iz k]) sizeOf177 rfl b5 rfl ⟨_, Uk l k, rfl⟩ fun g2 w2 hs2 b5 => (Z3 (Z5 (Z4 rfl (Wg (g := g2) 8 (⟨0, []⟩ : Tb) zeroValue24 Um fun g3 w3 p6 hs3 b6 => (Z3 ?_))))))))))))))))))))
 have h2 := ((h2.ext hs1).stp hs2 rfl).ext hs3
 have h3 := ((h3.ext hs1).stp hs2 rfl).ext hs3
 have h4 := ((h4.ext hs1).stp hs2 rfl).ext hs3
 have b5 := b5.ext hs3
 refine H4 (x := .tmp 5) isAgg24 sizeOf24 b6 fun v6 r6 hl6 => (V7 (x := .tmp 14) Yh.1 isAgg3 sizeOf3 b5 fun v7 r7 hl7 => (V7 (x := .tmp 16) Yb.1 isAgg27 sizeOf27 b5 fun v8 r8 hl8 => (Qk (g := g3) (n := 8) [0, 1, 2, 3, 4] [8, 9] [0, 1, 2, 3, 4, 5, 6, 7] rfl Wk (by kernel_rfl) fun wc hx hlt => (Wu (n := 8) rfl rfl .plain hl6 rfl rfl (Z6 (c := Gc p5 0) rfl rfl .plain (Zc Cj rfl b5.ptr) (Wu (n := 9) rfl rfl .plain hl7 rfl rfl (Z6 (c := Gc p5 1) rfl rfl .plain (Zc R5 rfl b5.ptr) (Wu (n := 9) rfl rfl .plain hl8 rfl rfl (W7 rfl rfl .plain (Tx (g := g3) (a' := (⟨0, []⟩ : Tb)) sizeOf24 rfl (h2.ext hx) rfl (r6.ext hx) fun g4 w4 hs4 h2 => ?_))))))))))
 have hlt := hlt.stp hs4
 refine ⟨hlt.toW, ?_⟩
 refine W7 rfl rfl .plain (Tx (g := g4) (a' := l) sizeOf3 rfl ((h3.ext hx).stp hs4 rfl) rfl ((r7.ext hx).stp hs4) fun g5 w5 hs5 h3 => ?_)
 have hlt := hlt.stp hs5
 refine ⟨hlt.toW, ?_⟩
 refine W7 rfl rfl .plain (Tx (g := g5) (a' := k) sizeOf27 rfl (((h4.ext hx).stp hs4 rfl).stp hs5 rfl) rfl (((r8.ext hx).stp hs4).stp hs5) fun g6 w6 hs6 h4 => ?_)
 have hlt := hlt.stp hs6
 refine ⟨hlt.toW, ?_⟩
 refine Q7 (Zb (Th (Ho rfl rfl ⟨g6, ?_, (h2.stp hs5 rfl).stp hs6 rfl, h3.stp hs6 rfl, h4⟩)))
 exact hs1.stpZ.trans ((hs2.stpZ rfl).trans (hs3.stpZ.trans (hx.stpZ.trans ((hs4.stpZ rfl).trans ((hs5.stpZ rfl).trans (hs6.stpZ rfl))))))
theorem O4 {d : Tb} {l k : Int} {g : Gh} {w : World} {p2 p3 p4 : Value} {tmps : Array Value} {fn : Func} (hfr : Fr gI wI g w) (b2 : OB 5 g w 24 d p2) (b3 : OB 6 g w 3 l p3) (b4 : OB 7 g w 27 k p4) (h0 : tmps.getD 2 undef = p2) (h1 : tmps.getD 3 undef = p3) (h2 : tmps.getD 4 undef = p4) (hres : fn.results = #[.cell 2 24, .cell 3 3, .cell 4 27] := by rfl) :
  LeavesIn Fence.wide 0 prog fn tmps (fun e w' => ∃ v, e = .returned v ∧ ∃ g', Fr gI wI g' w' ∧ ∃ y, v = .tuple #[y, Iz l, Iz k] ∧ RV g'.m w' d y) [] .returning w := by
 obtain ⟨v, hv, hr⟩ := Ol hres b2 b3 b4 isAgg24 sizeOf24 isAgg3 sizeOf3 isAgg27 sizeOf27 h0 h1 h2
 exact ⟨_, hr, _, rfl, g, hfr, v, rfl, hv⟩
def f59 (a : PR Tb) : Tb × Int × Int :=
 match a with
 | .ok y => (y, 0, 0)
 | .pn l k => (⟨0, []⟩, l, k)
theorem en59 : Enters prog 59 := enters_of func59 (by kernel_rfl) rfl
theorem wk59 {F : FuncId} {first caps : Array Value} (hent : Enters prog F) {a : PR Tb} (hc : ∀ g w, Ch gI.m wI g.m w → FnS (Ext g w) prog F (first ++ #[] ++ caps) w (okR a fun y g w v => RV g.m w y v) (pnR 177 a)) :
  Fn prog 59 #[.func (.func F) first caps] gI wI (fun m w v => ∃ y, v = .tuple #[y, Iz (f59 a).2.1, Iz (f59 a).2.2] ∧ RV m w (f59 a).1 y) := by
 have key : Calls prog 59 #[.func (.func F) first caps] wI fun e w' => ∃ v, e = .returned v ∧ ∃ g', Fr gI wI g' w' ∧ ∃ y, v = .tuple #[y, Iz (f59 a).2.1, Iz (f59 a).2.2] ∧ RV g'.m w' (f59 a).1 y := by
  refine Xp func59 rfl (Nat.le_of_ble_eq_true rfl) ?_
  show E _ 8 none _ _ _ _ _
  have hfr := Fr.start gI wI
  refine Z5 (Z4 rfl (Wg (g := { m := gI.m, o := fun _ => 0 }) 5 (⟨0, []⟩ : Tb) zeroValue24 Um fun g1 w1 p2 hs1 b2 => (Z4 rfl (Wg (g := g1) 6 (0 : Int) zeroValue3 (fun m w => Zj.2 rfl) fun g2 w2 p3 hs2 b3 => (Z4 rfl (Wg (g := g2) 7 (0 : Int) zeroValue27 (fun m w => Zj.2 rfl) fun g3 w3 p4 hs3 b4 => ?_))))))
  have hfr := ((hfr.ext hs1).ext hs2).ext hs3
  have b2 := (b2.ext hs2).ext hs3
  have b3 := b3.ext hs3
  refine Z3 (Z5 (Zx (.func (.func 102) #[] #[p2, p3, p4]) (Wt (by simp; exact ⟨rfl, rfl, rfl⟩)) rfl (F9 (vs := []) rfl .nil .plain rfl (Z3 (Z5 (Zn (.func (.func F) first caps) rfl rfl (F6 (vs := []) rfl hent .nil .plain rfl (Calls.mono (hc g3 w3 (hs1.ch.trans (hs2.ch.trans hs3.ch))) ?_))))))))
  rintro r w4 (⟨v, rfl, g4, hs4, y, rfl, hR⟩ | ⟨c, rfl, ⟨l, k, rfl, rfl⟩, g4, hs4⟩)
  ·refine .inl ⟨v, rfl, ?_⟩
   have hfr := hfr.ext hs4
   refine Z4 rfl (Tx (g := g4) (a' := y) sizeOf24 rfl (b2.ext hs4) rfl hR fun g5 w5 hs5 b2 => (Z4 rfl (Tx (g := g5) (a' := (0 : Int)) sizeOf3 rfl ((b3.ext hs4).stp hs5 rfl) rfl (Zj.2 rfl) fun g6 w6 hs6 b3 => (Z4 rfl (Tx (g := g6) (a' := (0 : Int)) sizeOf27 rfl (((b4.ext hs4).stp hs5 rfl).stp hs6 rfl) rfl (Zj.2 rfl) fun g7 w7 hs7 b4 => ?_)))))
   have hfr := ((hfr.stp hs5).stp hs6).stp hs7
   have b2 := (b2.stp hs6 rfl).stp hs7 rfl
   have b3 := b3.stp hs7 rfl
   refine Z3 (Z9 fun tmps ht => (leavesIn_cons (f := 102) (args := #[p2, p3, p4]) (by simp) (fun h => by cases h) (en102 _ _) (fun _ _ => trivial) (CallsDIn.mono M5 ?_)))
   rintro e u' w' ⟨rfl, x, rfl, rfl⟩
   exact O4 hfr b2 b3 b4 (ht 2) (ht 3) (ht 4)
  ·refine .inr ⟨_, rfl, fun tmps ht => ?_⟩
   have hfr := hfr.ext hs4
   refine leavesIn_cons (f := 102) (args := #[p2, p3, p4]) (by simp) (fun h => by cases h) (en102 _ _) (fun _ _ => trivial) (CallsDIn.mono (Nn (b2.ext hs4) (b3.ext hs4) (b4.ext hs4)) ?_)
   rintro e u' w' ⟨rfl, x, rfl, g5, hs5, b2, b3, b4⟩
   exact O4 (hfr.stpZ hs5) b2 b3 b4 (ht 2) (ht 3) (ht 4)
 refine Calls.mono key ?_
 rintro r w' ⟨v, rfl, g', hfr, hr⟩
 exact ⟨v, rfl, _, hfr.fin, hr⟩

/-! ### caught at Gg -/
theorem Jt : ∀ m w, RV m w (⟨[], []⟩ : Gg) (.agg #[.slice none 0 0, .slice none 0 0]) := fun m w => ⟨_, (⟨[_], _, rfl, Q0, Q0⟩ : GoT.rep m w (([], []) : List Gs × List Gi) _), rfl⟩
theorem en120 : ∀ args w, (callFunc 120 args).run prog w = .ok (.enter 120 args) w := enters_of func120 (by kernel_rfl) rfl
theorem Nd {p2 p3 p4 : Value} {w : World} : CallsDIn Fence.wide 0 prog 120 #[p2, p3, p4] .returning w fun e u' w' => u' = .returning ∧ ∃ x, e = .returned x ∧ w' = w := by
 refine Yp func120 rfl (Nat.le_of_ble_eq_true rfl) rfl .none ?_;show E _ 18 none _ _ _ _ _;refine Zr (Z5 (Zx (.bool true) (U6 (by kernel_rfl) rfl (.inl ⟨rfl, rfl⟩)) rfl (Z3 (Gx rfl rfl (Za (Zg .nilIface rfl rfl ?_))))));exact Zb (Ho rfl rfl rfl)
theorem Od {g : Gh} {w : World} {p2 p3 p4 : Value} {d0 : Gg} {l0 k0 l k : Int} {older : List PanicEntry} (h2 : OB 5 g w 39 d0 p2) (h3 : OB 6 g w 3 l0 p3) (h4 : OB 7 g w 27 k0 p4) :
  CallsDIn Fence.wide 0 prog 120 #[p2, p3, p4] (.panicking ({ v := .iface 177 (.agg #[Iz l, Iz k]), recovered := false } :: older)) w fun e u' w' =>
   u' = .panicking ({ v := .iface 177 (.agg #[Iz l, Iz k]), recovered := true } :: older) ∧ ∃ x, e = .returned x ∧ ∃ g', Bh g w g' w' ∧ OB 5 g' w' 39 (⟨[], []⟩ : Gg) p2 ∧ OB 6 g' w' 3 l p3 ∧ OB 7 g' w' 27 k p4 := by
 refine Yp func120 rfl (Nat.le_of_ble_eq_true rfl) rfl (.some _ _) ?_
 show E _ 18 none _ _ _ _ _
 refine Zr (Z5 (Zx (.bool false) (U6 (by kernel_rfl) rfl (.inr ⟨⟨_, _, rfl⟩, rfl⟩)) rfl (Z3 (Gy rfl rfl (Z5 (Zx (.tuple #[.agg #[Iz l, Iz k], .bool true]) (Xl rfl) rfl (Zx (.bool true) (Zi rfl rfl) rfl (Zx (.agg #[Iz l, Iz k]) (Zi rfl rfl) rfl (Z3 (Gx rfl rfl (Z5 (Z4 rfl (Wg (g := g) 9 (⟨0, 0⟩ : W6) zeroValue177 (fun m w => ⟨_, Uk 0 0, rfl⟩) fun g1 w1 p5 hs1 b5 => (Z4 rfl (Tx (g := g1) (a' := (⟨l, k⟩ : W6)) (v := .agg #[Iz l, Iz k]) sizeOf177 rfl b5 rfl ⟨_, Uk l k, rfl⟩ fun g2 w2 hs2 b5 => (Z3 (Z5 (Z4 rfl (Wg (g := g2) 8 (⟨[], []⟩ : Gg) zeroValue39 Jt fun g3 w3 p6 hs3 b6 => (Z3 ?_))))))))))))))))))))
 have h2 := ((h2.ext hs1).stp hs2 rfl).ext hs3
 have h3 := ((h3.ext hs1).stp hs2 rfl).ext hs3
 have h4 := ((h4.ext hs1).stp hs2 rfl).ext hs3
 have b5 := b5.ext hs3
 refine H4 (x := .tmp 5) isAgg39 sizeOf39 b6 fun v6 r6 hl6 => (V7 (x := .tmp 14) Yh.1 isAgg3 sizeOf3 b5 fun v7 r7 hl7 => (V7 (x := .tmp 16) Yb.1 isAgg27 sizeOf27 b5 fun v8 r8 hl8 => (Qk (g := g3) (n := 8) [0, 1, 2, 3, 4] [8, 9] [0, 1, 2, 3, 4, 5, 6, 7] rfl Wk (by kernel_rfl) fun wc hx hlt => (Wu (n := 8) rfl rfl .plain hl6 rfl rfl (Z6 (c := Gc p5 0) rfl rfl .plain (Zc Cj rfl b5.ptr) (Wu (n := 9) rfl rfl .plain hl7 rfl rfl (Z6 (c := Gc p5 1) rfl rfl .plain (Zc R5 rfl b5.ptr) (Wu (n := 9) rfl rfl .plain hl8 rfl rfl (W7 rfl rfl .plain (Tx (g := g3) (a' := (⟨[], []⟩ : Gg)) sizeOf39 rfl (h2.ext hx) rfl (r6.ext hx) fun g4 w4 hs4 h2 => ?_))))))))))
 have hlt := hlt.stp hs4
 refine ⟨hlt.toW, ?_⟩
 refine W7 rfl rfl .plain (Tx (g := g4) (a' := l) sizeOf3 rfl ((h3.ext hx).stp hs4 rfl) rfl ((r7.ext hx).stp hs4) fun g5 w5 hs5 h3 => ?_)
 have hlt := hlt.stp hs5
 refine ⟨hlt.toW, ?_⟩
 refine W7 rfl rfl .plain (Tx (g := g5) (a' := k) sizeOf27 rfl (((h4.ext hx).stp hs4 rfl).stp hs5 rfl) rfl (((r8.ext hx).stp hs4).stp hs5) fun g6 w6 hs6 h4 => ?_)
 have hlt := hlt.stp hs6
 refine ⟨hlt.toW, ?_⟩
 refine Q7 (Zb (Th (Ho rfl rfl ⟨g6, ?_, (h2.stp hs5 rfl).stp hs6 rfl, h3.stp hs6 rfl, h4⟩)))
 exact hs1.stpZ.trans ((hs2.stpZ rfl).trans (hs3.stpZ.trans (hx.stpZ.trans ((hs4.stpZ rfl).trans ((hs5.stpZ rfl).trans (hs6.stpZ rfl))))))
theorem On {d : Gg} {l k : Int} {g : Gh} {w : World} {p2 p3 p4 : Value} {tmps : Array Value} {fn : Func} (hfr : Fr gI wI g w) (b2 : OB 5 g w 39 d p2) (b3 : OB 6 g w 3 l p3) (b4 : OB 7 g w 27 k p4) (h0 : tmps.getD 2 undef = p2) (h1 : tmps.getD 3 undef = p3) (h2 : tmps.getD 4 undef = p4) (hres : fn.results = #[.cell 2 39, .cell 3 3, .cell 4 27] := by rfl) :
  LeavesIn Fence.wide 0 prog fn tmps (fun e w' => ∃ v, e = .returned v ∧ ∃ g', Fr gI wI g' w' ∧ ∃ y, v = .tuple #[y, Iz l, Iz k] ∧ RV g'.m w' d y) [] .returning w := by
 obtain ⟨v, hv, hr⟩ := Ol hres b2 b3 b4 isAgg39 sizeOf39 isAgg3 sizeOf3 isAgg27 sizeOf27 h0 h1 h2
 exact ⟨_, hr, _, rfl, g, hfr, v, rfl, hv⟩
def f76 (a : PR Gg) : Gg × Int × Int :=
 match a with
 | .ok y => (y, 0, 0)
 | .pn l k => (⟨[], []⟩, l, k)
theorem en76 : Enters prog 76 := enters_of func76 (by kernel_rfl) rfl
theorem wk76 {F : FuncId} {first caps : Array Value} (hent : Enters prog F) {a : PR Gg} (hc : ∀ g w, Ch gI.m wI g.m w → FnS (Ext g w) prog F (first ++ #[] ++ caps) w (okR a fun y g w v => RV g.m w y v) (pnR 177 a)) :
  Fn prog 76 #[.func (.func F) first caps] gI wI (fun m w v => ∃ y, v = .tuple #[y, Iz (f76 a).2.1, Iz (f76 a).2.2] ∧ RV m w (f76 a).1 y) := by
 have key : Calls prog 76 #[.func (.func F) first caps] wI fun e w' => ∃ v, e = .returned v ∧ ∃ g', Fr gI wI g' w' ∧ ∃ y, v = .tuple #[y, Iz (f76 a).2.1, Iz (f76 a).2.2] ∧ RV g'.m w' (f76 a).1 y := by
  refine Xp func76 rfl (Nat.le_of_ble_eq_true rfl) ?_
  show E _ 8 none _ _ _ _ _
  have hfr := Fr.start gI wI
  refine Z5 (Z4 rfl (Wg (g := { m := gI.m, o := fun _ => 0 }) 5 (⟨[], []⟩ : Gg) zeroValue39 Jt fun g1 w1 p2 hs1 b2 => (Z4 rfl (Wg (g := g1) 6 (0 : Int) zeroValue3 (fun m w => Zj.2 rfl) fun g2 w2 p3 hs2 b3 => (Z4 rfl (Wg (g := g2) 7 (0 : Int) zeroValue27 (fun m w => Zj.2 rfl) fun g3 w3 p4 hs3 b4 => ?_))))))
  have hfr := ((hfr.ext hs1).ext hs2).ext hs3
  have b2 := (b2.ext hs2).ext hs3
  have b3 := b3.ext hs3
  refine Z3 (Z5 (Zx (.func (.func 120) #[] #[p2, p3, p4]) (Wt (by simp; exact ⟨rfl, rfl, rfl⟩)) rfl (F9 (vs := []) rfl .nil .plain rfl (Z3 (Z5 (Zn (.func (.func F) first caps) rfl rfl (F6 (vs := []) rfl hent .nil .plain rfl (Calls.mono (hc g3 w3 (hs1.ch.trans (hs2.ch.trans hs3.ch))) ?_))))))))
  rintro r w4 (⟨v, rfl, g4, hs4, y, rfl, hR⟩ | ⟨c, rfl, ⟨l, k, rfl, rfl⟩, g4, hs4⟩)
  ·refine .inl ⟨v, rfl, ?_⟩
   have hfr := hfr.ext hs4
   refine Z4 rfl (Tx (g := g4) (a' := y) sizeOf39 rfl (b2.ext hs4) rfl hR fun g5 w5 hs5 b2 => (Z4 rfl (Tx (g := g5) (a' := (0 : Int)) sizeOf3 rfl ((b3.ext hs4).stp hs5 rfl) rfl (Zj.2 rfl) fun g6 w6 hs6 b3 => (Z4 rfl (Tx (g := g6) (a' := (0 : Int)) sizeOf27 rfl (((b4.ext hs4).stp hs5 rfl).stp hs6 rfl) rfl (Zj.2 rfl) fun g7 w7 hs7 b4 => ?_)))))
   have hfr := ((hfr.stp hs5).stp hs6).stp hs7
   have b2 := (b2.stp hs6 rfl).stp hs7 rfl
   have b3 := b3.stp hs7 rfl
   refine Z3 (Z9 fun tmps ht => (leavesIn_cons (f := 120) (args := #[p2, p3, p4]) (by simp) (fun h => by cases h) (en120 _ _) (fun _ _ => trivial) (CallsDIn.mono Nd ?_)))
   rintro e u' w' ⟨rfl, x, rfl, rfl⟩
   exact On hfr b2 b3 b4 (ht 2) (ht 3) (ht 4)
  ·refine .inr ⟨_, rfl, fun tmps ht => ?_⟩
   have hfr := hfr.ext hs4
   refine leavesIn_cons (f := 120) (args := #[p2, p3, p4]) (by simp) (fun h => by cases h) (en120 _ _) (fun _ _ => trivial) (CallsDIn.mono (Od (b2.ext hs4) (b3.ext hs4) (b4.ext hs4)) ?_)
   rintro e u' w' ⟨rfl, x, rfl, g5, hs5, b2, b3, b4⟩
   exact On (hfr.stpZ hs5) b2 b3 b4 (ht 2) (ht 3) (ht 4)
 refine Calls.mono key ?_
 rintro r w' ⟨v, rfl, g', hfr, hr⟩
 exact ⟨v, rfl, _, hfr.fin, hr⟩
end

section
variable {gI : Gh} {wI : World}
def f60b (k : Tm × Tb → Option (PR Tb)) (z : Tm × Tb) : Option (PR Tb) :=
 bif (bif z.1.line == (0 : Int) then true else !(z.1.rest.b == [])) then
  bif z.1.line == (60 : Int) then bnd (f61 ⟨z.1.text, z.1.rest, w64 (z.1.line + 1)⟩ 5) fun _ => none
  else bnd (f62 z.1) fun q => (f63 q.1).bind fun rw =>
   bnd (f64 q.2 (bif rw.2 then ((q.1.b.length : Int) == (bif q.2.line == (1 : Int) then (q.1.b.length : Int) else z.2.Hooks)) else false)) fun _ =>
   (apnd 8 z.2.Rows [rw.1]).bind fun rows => k (q.2, ⟨bif q.2.line == (1 : Int) then (q.1.b.length : Int) else z.2.Hooks, rows⟩)
 else some (.ok z.2)
def f60 (s : Str) : Option (PR Tb) := lp (σ := Tm × Tb) f60b big (⟨s, s, 0⟩, ⟨0, []⟩)
theorem en60 : Enters prog 60 := enters_of func60 (by kernel_rfl) rfl
theorem C6 : T5 prog 119 = some ([Str.v ⟨[]⟩, Str.v ⟨[]⟩, Iz 0], [(0, 1), (1, 1), (2, 1)]) := by kernel_rfl
theorem Ds {m : Nat → Nat} {w : World} (x : Tm) : GoT.rep m w x [x.text.v, x.rest.v, Iz x.line] := ⟨[_], _, rfl, rfl, [_], [_], rfl, rfl, rfl⟩
theorem Rj {α : Type} [GoT α] {i : Nat} {g : Gh} {w : World} {t : TypeId} {a : α} {p : Value} {cs : Array Value} (b : OB i g w t a p) (c : CB i g w t p cs) : ∃ bk, p = .pointer (some ⟨bk, 0, none⟩) ∧ HBm i g w bk (.cells cs t (0, 0)) := by
 obtain ⟨bk, cs', rfl, ho, hm, hh, _⟩ := b;obtain ⟨bk2, hp, _, hc2⟩ := c;injection hp with hp; injection hp with hp; injection hp with hp _;subst hp;exact ⟨_, rfl, ho, hm, hc2⟩
theorem Lh : (prog.info? 3).map (fun i => (i.zero, i.size, i.bytes)) = some (some (Iz 0), 1, 8) := by kernel_rfl
theorem L7 {i : Nat} {g : Gh} {w : World} {bd : Nat} {d : Tb} {v : Value} (hd : HBm i g w bd (.cells #[Iz d.Hooks, v] 24 (0, 0))) (r : RV g.m w d.Rows v) : OB i g w 24 d (.pointer (some ⟨bd, 0, none⟩)) := by
 obtain ⟨cs, ⟨a, c, rfl, hc⟩, rfl⟩ := r;exact ⟨bd, _, rfl, hd.1, hd.2.1, hd.2.2, [_], [_], rfl, rfl, a, c, rfl, hc⟩
theorem Oy {P : Program} {fn : Func} {t0 : Tmp} {y0 : TypeId} {α : Type} [GoT α] {i : Nat} {d : α} {e : Env} {ds : List Deferred} {g : Gh} {w : World} {p : Value} {R : Value → World → Prop} (hres : fn.results = #[.cell t0 y0]) (hd : ds = []) (b : OB i g w y0 d p)
  (a0 : ∀ w, (isAgg y0).run P w = .ok (GoT.agg α) w) (s0 : ∀ w, (sizeOf y0).run P w = .ok (GoT.k α) w) (h0 : e t0 = p) (h : ∀ v, RV g.m w d v → R v w) : K3 P fn R .ret e ds w := by
 refine ⟨hd, fun tmps ht => ?_⟩
 obtain ⟨c2, cs2, rfl, _, _, hh2, hr2⟩ := b
 have l2 := T3 (P := P) (b := c2) (off := 0) a0 s0 hr2 (fun j c hj => by simpa [World.cell?, hh2] using hj)
 have h0 := (ht t0).trans h0
 simp only [Array.getD_eq_getD_getElem?] at h0
 have hq : ∀ (a : Addr), (asAddr (.pointer (some a))).run P w = .ok a w := fun _ => rfl
 refine ⟨toV (GoT.agg α) cs2.toList, ?_, h _ ⟨_, hr2, rfl⟩⟩
 simp [results, hres, h0, l2, hq]
theorem wk60 (hT : J7 gI.m wI) {s : Str} {p : Value} (hp : PT gI.m wI s p) {r : PR Tb} (h : f60 s = some r) : FnS (Ext gI wI) prog 60 #[p] wI (okR r fun y g w v => RV g.m w y v) (pnR 177 r) := by
 have key : FnS (Fr gI wI) prog 60 #[p] wI (okR r fun y g w v => RV g.m w y v) (pnR 177 r) := by
  refine Hd func60 rfl (Nat.le_of_ble_eq_true rfl) ?_;show E _ 68 none _ _ _ _ _;have hfr := Fr.start gI wI;refine Z5 (Z4 rfl (Td (g := { m := gI.m, o := fun _ => 0 }) 5 (⟨0, []⟩ : Tb) zeroValue24 Um fun g1 w1 p1 hs1 b1 c1 => ?_));have hfr := hfr.stp hs1;obtain ⟨bd, rfl, hd⟩ := Rj b1 c1;have hp1 := hp.ch hs1.ch;refine Z3 (Z5 (Z4 rfl (Z7 isAgg9 sizeOf9 rfl hp1 fun v rv => ?_)));obtain rfl := Ts.1 rv;refine Z4 rfl (Z7 isAgg9 sizeOf9 rfl hp1 fun v rv => ?_);obtain rfl := Ts.1 rv;refine Zx (.agg #[s.v, s.v, Iz 0]) (T7 (vs := [(0, s.v), (1, s.v)]) [[Str.v ⟨[]⟩], [Str.v ⟨[]⟩], [Iz 0]] C6 rfl rfl (.cons rfl (.cons rfl .nil)) ⟨⟨_, rfl, rfl⟩, ⟨⟨_, rfl, rfl⟩, trivial⟩⟩) rfl (Z4 rfl (F5 (g := g1) 1 (a := (⟨s, s, 0⟩ : Tm)) (v := .agg #[s.v, s.v, Iz 0]) rfl ⟨_, Ds ⟨s, s, 0⟩, rfl⟩ fun g2 w2 p2 hs2 b2 c2 => ?_));have hfr := hfr.stp hs2;obtain ⟨br, rfl, hb⟩ := Rj b2 c2;have hb : RB g2 w2 br 119 ⟨s, s, 0⟩ [] := hb;have hd := hd.stp hs2 rfl;refine Zg (.pointer (some ⟨br, 0, none⟩)) rfl rfl (Z3 (Zf (Zr ?_)));unfold f60 at h;refine Vt h (fun (z : Tm × Tb) e ds w' => ds = [] ∧ e 1 = .pointer (some ⟨bd, 0, none⟩) ∧ e 2 = .pointer (some ⟨br, 0, none⟩) ∧ ∃ g vR, Fr gI wI g w' ∧ RB g w' br 119 z.1 [] ∧ HBm 5 g w' bd (.cells #[Iz z.2.Hooks, vR] 24 (0, 0)) ∧ RV g.m w' z.2.Rows vR ∧ OS 6 g w' 3 z.2.Rows vR) ⟨rfl, rfl, rfl, g2, .slice none 0 0, hfr, hb, hd, Tp, OS.nil⟩ (fun X rec hX => ?_);rintro ⟨x, d⟩ e ds w3 ⟨rfl, e1, e2, g3, vR, hfr, hb, hd, rR, oR⟩ hk;have hT3 := hT.ch hfr.ch;unfold f60b at hk;refine Zf (Y9 (fun e ds w' => ds = [] ∧ e 1 = .pointer (some ⟨bd, 0, none⟩) ∧ e 2 = .pointer (some ⟨br, 0, none⟩) ∧ e 21 = .bool (bif x.line == (0 : Int) then true else !(x.rest.b == [])) ∧ w' = w3) (Za ?_) ?_)
  ·refine Zo e2 rfl (Zx (.pointer (some ⟨br, 0, none⟩)) (Z8 rfl) rfl (Zx (.pointer (some ⟨br, 2, none⟩)) (Tw Ky rfl) rfl (Z4 rfl (Qu isAgg3 rfl (hb.cell.trans rfl) (Gd (.bool (x.line == (0 : Int))) rfl rfl rfl rfl (Zn (.bool (x.line == (0 : Int))) rfl rfl ?_))))))
   cases h0 : (x.line == (0 : Int)) with
   | true =>
    refine Zz rfl rfl (c' := true) rfl rfl rfl (Zz rfl rfl (c' := true) rfl rfl rfl (Zz rfl rfl (c' := true) rfl rfl rfl (Zz rfl rfl (c' := true) rfl rfl rfl (Zz rfl rfl (c' := true) rfl rfl rfl (Zx (.bool true) (Zl rfl rfl) rfl ?_)))));exact Zb ⟨rfl, e1, e2, rfl, rfl⟩
   | false =>
    refine Zy (.pointer (some ⟨br, 0, none⟩)) (Zk e2) rfl rfl rfl rfl (Zy (.pointer (some ⟨br, 0, none⟩)) (Z8 rfl) rfl rfl rfl rfl (Zy (.pointer (some ⟨br, 1, none⟩)) (Tw Ua rfl) rfl rfl rfl rfl (Ze (.yes2 rfl rfl rfl) rfl (Qu isAgg9 rfl (hb.cell.trans rfl) (Zy (.bool (!(x.rest.b == []))) (W2 (a := x.rest) (b := ⟨[]⟩) rfl rfl rfl) rfl rfl rfl rfl (Zx (.bool (!(x.rest.b == []))) (Zl rfl rfl) rfl ?_))))));exact Zb ⟨rfl, e1, e2, rfl, rfl⟩
  rintro e ds w' ⟨rfl, e1, e2, e21, rfl⟩;rcases Zt hk with ⟨hc, hk⟩ | ⟨hc, hk⟩;rotate_left
  ·refine Gy hc e21 (Tu (G5 (G5 (Tf ?_))))
   obtain rfl := sinj hk;have ob := L7 hd rR;refine Z5 (Z4 rfl (T8 isAgg24 sizeOf24 e1 ob fun v rv => (Z4 rfl (Tx (g := g3) (a' := d) sizeOf24 e1 ob rfl rv fun g4 w4 hs4 ob => (Z3 (Z9 ?_))))));exact Oy rfl rfl ob isAgg24 sizeOf24 e1 fun v rv => ⟨g4, hfr.stp hs4, d, rfl, rv⟩
  refine Gx hc e21 (Zu (Zd (Zr (Zf (Z5 (Zo e2 rfl (Zx (.pointer (some ⟨br, 0, none⟩)) (Z8 rfl) rfl (Zx (.pointer (some ⟨br, 2, none⟩)) (Tw Ky rfl) rfl (Z4 rfl (Qu isAgg3 rfl (hb.cell.trans rfl) (Gd (.bool (x.line == (60 : Int))) rfl rfl rfl rfl (Z3 ?_))))))))))));rcases Zt hk with ⟨h6, hk⟩ | ⟨h6, hk⟩
  ·refine Gx h6 rfl (Z5 (Zo e2 rfl (Zx (.pointer (some ⟨br, 0, none⟩)) (Z8 rfl) rfl (Zx (.pointer (some ⟨br, 2, none⟩)) (Tw Ky rfl) rfl (Z4 rfl (Qu isAgg3 rfl (hb.cell.trans rfl) (Gd (Iz (w64 (x.line + 1))) rfl rfl rfl rfl (Zx (.pointer (some ⟨br, 0, none⟩)) (Z8 rfl) rfl (Zx (.pointer (some ⟨br, 2, none⟩)) (Tw Ky rfl) rfl (Z4 rfl (Kc (c := Iz (w64 (x.line + 1))) sizeOf3 rfl rfl rfl (by simp) hb fun w4 hs4 hb4 _ => ?_)))))))))))
   have hb4 : RB g3 w4 br 119 ⟨x.text, x.rest, w64 (x.line + 1)⟩ [] := hb4;refine Z3 (Za (Zo e2 rfl (Qn (vs := [.pointer (some ⟨br, 0, none⟩), Iz 5]) en61 (.cons rfl (.cons rfl .nil)) .plain rfl hk (fun a ha => wk61 hb4 ha) (fun l e' g' w' hr hs => W0 hr ((hfr.stp hs4).ext hs)) (fun y g' w' v hs hR hx hk => by cases hx))))
  refine Gy h6 rfl (Zu (Zd (Z5 (Zo e2 rfl (Qn (vs := [.pointer (some ⟨br, 0, none⟩)]) en62 (.cons rfl .nil) .plain rfl hk (fun a ha => wk62 hT3 hb ha) (fun l e' g' w' hr hs => W0 hr (hfr.stp hs)) (fun q g4 w4 v hs4 hR hx hk => ?_))))));obtain ⟨rfl, hb⟩ := hR;have hfr := hfr.stp hs4;have hd := hd.stp hs4 rfl;have rR := rR.stp hs4;have oR := oR.stp hs4 rfl;obtain ⟨rw1, hrw, hk⟩ := Z1 hk;refine Zg q.1.v rfl rfl (Z3 (Z5 (Zn q.1.v rfl rfl (Z4 rfl (Zp (g := g4) (vs := [q.1.v]) en63 (.cons rfl .nil) (wk63 hrw) fun g5 w5 v hs5 hv => ?_)))));obtain ⟨_, _, rfl, rfl, rfl⟩ := hv;have hfr := hfr.ext hs5;have hd := hd.ext hs5;have rR := rR.ext hs5;have oR := oR.ext hs5;have hb := hb.ext hs5;refine Zn (.tuple #[Iz rw1.1, .bool rw1.2]) rfl rfl (Zx (Iz rw1.1) (Zi rfl rfl) rfl (Zx (.bool rw1.2) (Zi rfl rfl) rfl (Zg (Iz rw1.1) rfl rfl (Zg (.bool rw1.2) rfl rfl (Z3 (Kl (fun e ds w' => ds = [] ∧ e 1 = .pointer (some ⟨bd, 0, none⟩) ∧ e 2 = .pointer (some ⟨br, 0, none⟩) ∧ e 3 = q.1.v ∧ e 4 = Iz rw1.1 ∧ e 5 = .bool rw1.2 ∧ Fr gI wI g5 w' ∧ Stp 5 g5 w5 g5 w' ∧ HBm 5 g5 w' bd (.cells #[Iz (bif q.2.line == (1 : Int) then (q.1.b.length : Int) else d.Hooks), vR] 24 (0, 0))) (fun Q' hQ' => ?_) ?_))))))
  ·refine Z5 (Zo e2 rfl (Zx (.pointer (some ⟨br, 0, none⟩)) (Z8 rfl) rfl (Zx (.pointer (some ⟨br, 2, none⟩)) (Tw Ky rfl) rfl (Z4 rfl (Qu isAgg3 rfl (hb.cell.trans rfl) (Gd (.bool (q.2.line == (1 : Int))) rfl rfl rfl rfl (Z3 ?_)))))))
   cases h1 : (q.2.line == (1 : Int)) with
   | true =>
    refine Gx rfl rfl (Za (Zn q.1.v rfl rfl (Zx (Iz (q.1.b.length : Int)) (H8 underlying9 rfl) rfl (Zx (.pointer (some ⟨bd, 0, none⟩)) (Tw H1 e1) rfl (Z4 rfl (Kc (c := Iz (q.1.b.length : Int)) sizeOf3 rfl rfl rfl (by simp) hd fun w6 hs6 hd6 _ => ?_))))));exact Zb (hQ' _ _ _ ⟨rfl, e1, e2, rfl, rfl, rfl, hfr.stp hs6, hs6, by rw [h1]; exact hd6⟩)
   | false =>
    refine Gy rfl rfl (Zu ?_);exact hQ' _ _ _ ⟨rfl, e1, e2, rfl, rfl, rfl, hfr, (Ext.refl _ _).stp, by rw [h1]; exact hd⟩
  rintro e ds w6 ⟨rfl, e1, e2, e3, e4, e5, hfr, hs6, hd⟩;have hb := hb.stp hs6 rfl;have rR := rR.stp hs6;have oR := oR.stp hs6 rfl;generalize (bif q.2.line == (1 : Int) then (q.1.b.length : Int) else d.Hooks) = hh at hd hk;refine Y9 (fun e ds w' => ds = [] ∧ e 1 = .pointer (some ⟨bd, 0, none⟩) ∧ e 2 = .pointer (some ⟨br, 0, none⟩) ∧ e 4 = Iz rw1.1 ∧ ∃ g', Ext g5 w6 g' w' ∧ ∃ rows, apnd 8 d.Rows [rw1.1] = some rows ∧ rec (q.2, ⟨hh, rows⟩) = some r) (Za ?_) ?_
  ·refine Zo e2 rfl (Zo e5 rfl (Zn (.bool rw1.2) rfl rfl ?_))
   have fin : ∀ (c : Bool) (e' : Env), c = (bif rw1.2 then ((q.1.b.length : Int) == hh) else false) → True := fun _ _ _ => trivial
   cases h2 : rw1.2 with
   | true =>
    rw [h2] at hk;refine Zy q.1.v (Zk e3) rfl rfl rfl rfl (Zy (Iz (q.1.b.length : Int)) (H8 underlying9 rfl) rfl rfl rfl rfl (Zy (.pointer (some ⟨bd, 0, none⟩)) (Tw H1 e1) rfl rfl rfl rfl (Ze (.yes2 rfl rfl rfl) rfl (Qu isAgg3 rfl (hd.cell.trans rfl) (Zy (.bool ((q.1.b.length : Int) == hh)) (Gp rfl rfl rfl) rfl rfl rfl rfl (Zx (.bool ((q.1.b.length : Int) == hh)) (Zl rfl rfl) rfl (Qn (vs := [.pointer (some ⟨br, 0, none⟩), .bool ((q.1.b.length : Int) == hh)]) en64 (.cons rfl (.cons rfl .nil)) .plain rfl hk (fun a ha => wk64 hb ha) (fun l e' g' w' hr hs => W0 hr (hfr.ext hs)) (fun y g' w' v hs hR hx hk => ?_))))))));obtain ⟨rows, hrows, hk⟩ := Z1 hk;exact Zb ⟨rfl, e1, e2, e4, g', hs, rows, hrows, hk⟩
   | false =>
    rw [h2] at hk;refine Zz rfl rfl (c' := false) rfl rfl rfl (Zz rfl rfl (c' := false) rfl rfl rfl (Zz rfl rfl (c' := false) rfl rfl rfl (Zz rfl rfl (c' := false) rfl rfl rfl (Zz rfl rfl (c' := false) rfl rfl rfl (Zx (.bool false) (Zl rfl rfl) rfl (Qn (vs := [.pointer (some ⟨br, 0, none⟩), .bool false]) en64 (.cons rfl (.cons rfl .nil)) .plain rfl hk (fun a ha => wk64 hb ha) (fun l e' g' w' hr hs => W0 hr (hfr.ext hs)) (fun y g' w' v hs hR hx hk => ?_)))))));obtain ⟨_, hf⟩ := hR
    cases hf
  rintro e ds w7 ⟨rfl, e1, e2, e4, g7, hs7, rows, hrows, hk⟩;have hfr := hfr.ext hs7;have hd := hd.ext hs7;have rR := rR.ext hs7;have oR := oR.ext hs7;have hb := hb.ext hs7;refine Za (Zx (.pointer (some ⟨bd, 1, none⟩)) (Tw Hf e1) rfl (Z4 rfl (Qu isAgg22 rfl (hd.cell.trans rfl) (Zo e4 rfl (Z4 rfl (Ga (g := g7) 7 (xs := ([rw1.1] : List Int)) (vs := [Iz rw1.1]) underlying22 sizeOf3 zeroValue3 rfl rfl (.cons rfl .nil) (RVs.cons (Zj.2 rfl) RVs.nil) rfl rfl fun g8 w8 v8 hs8 o8 r8 hx8 _ => (Z4 rfl (Qd (g := g8) (i := 6) underlying22 Lh rfl rfl (oR.ext hx8) (rR.ext hx8) rfl r8 hrows fun g9 w9 v9 hs9 o9 r9 _ => (Zx (.pointer (some ⟨bd, 1, none⟩)) (Tw Hf e1) rfl (Z4 rfl (Kc (c := v9) sizeOf22 rfl rfl (by obtain ⟨_, _, rfl, _⟩ := Qc r9; rfl) (by simp) ((hd.ext hx8).stp hs9 rfl) fun w10 hs10 hd10 _ => (Zb (Th (Zd ?_))))))))))))));exact hX (q.2, ⟨hh, rows⟩) _ _ _ ⟨rfl, e1, e2, g9, v9, ((hfr.ext hx8).stp hs9).stp hs10, ((hb.ext hx8).stp hs9 rfl).stp hs10 rfl, hd10, r9.stp hs10, o9.stp hs10 rfl⟩ hk
 refine Calls.mono key ?_;rintro r w' (⟨v, rfl, g', hs, hr⟩ | ⟨c, rfl, hx, g', hs⟩)
 ·exact .inl ⟨v, rfl, _, hs.fin, hr⟩
 ·exact .inr ⟨c, rfl, hx, _, hs.fin⟩
theorem Fj {P : Program} {fn : Func} {t0 t1 t2 : Tmp} {y0 : TypeId} {α : Type} [GoT α] {i : Nat} {d : α} {e : Env} {ds : List Deferred} {g : Gh} {w : World} {p v1 v2 : Value} {R : Value → World → Prop} (hres : fn.results = #[.cell t0 y0, .tmp t1, .tmp t2]) (hd : ds = []) (b : OB i g w y0 d p)
  (a0 : ∀ w, (isAgg y0).run P w = .ok (GoT.agg α) w) (s0 : ∀ w, (sizeOf y0).run P w = .ok (GoT.k α) w) (h0 : e t0 = p) (h1 : e t1 = v1) (h2 : e t2 = v2) (h : ∀ v, RV g.m w d v → R (.tuple #[v, v1, v2]) w) : K3 P fn R .ret e ds w := by
 refine ⟨hd, fun tmps ht => ?_⟩
 obtain ⟨c2, cs2, rfl, _, _, hh2, hr2⟩ := b
 have l2 := T3 (P := P) (b := c2) (off := 0) a0 s0 hr2 (fun j c hj => by simpa [World.cell?, hh2] using hj)
 have h0 := (ht t0).trans h0
 have h1 := (ht t1).trans h1
 have h2 := (ht t2).trans h2
 simp only [Array.getD_eq_getD_getElem?] at h0 h1 h2
 have hq : ∀ (a : Addr), (asAddr (.pointer (some a))).run P w = .ok a w := fun _ => rfl
 refine ⟨.tuple #[toV (GoT.agg α) cs2.toList, v1, v2], ?_, h _ ⟨_, hr2, rfl⟩⟩
 simp [results, hres, h0, h1, h2, l2, hq]
def f19 (s : Str) : Option (Tb × Int × Int) := (f60 s).bind fun a => some (f59 a)
theorem en19 : Enters prog 19 := enters_of func19 (by kernel_rfl) rfl
theorem wk19 (hTI : J7 gI.m wI) {s : Str} {r : Tb × Int × Int} (h : f19 s = some r) : Fn prog 19 #[s.v] gI wI (fun m w v => ∃ y0 y1 y2, v = .tuple #[y0, y1, y2] ∧ RV m w r.1 y0 ∧ y1 = Iz r.2.1 ∧ y2 = Iz r.2.2) := by
 obtain ⟨a, ha, h⟩ := Z1 h;obtain rfl := sinj h;refine fnE func19 rfl rfl fun g0 hm hfr => ?_;show E _ 10 none _ _ _ _ _;have hT : J7 g0.m wI := hm ▸ hTI;refine Z5 (Z4 rfl (T1 (g := g0) (a := s) rfl (Ts.2 rfl) fun g1 w1 p hs1 hp => (Z4 rfl (Wg (g := g1) 5 (⟨0, []⟩ : Tb) zeroValue24 Um fun g2 w2 p2 hs2 b2 => (Zg (Iz 0) rfl rfl (Zg (Iz 0) rfl rfl (Z3 (Z5 ?_))))))));have hp := hp.ext hs2;have hfr := (hfr.ext hs1).ext hs2;refine Zx (.func (.func 60) #[] #[p]) (Wt (by simp; rfl)) rfl (Z4 rfl (Zp (g := g2) (vs := [.func (.func 60) #[] #[p]]) en59 (.cons rfl .nil) (wk59 (gI := g2) (first := #[]) (caps := #[p]) en60 (a := a) fun g w hc => wk60 (hT.ch (hs1.ch.trans (hs2.ch.trans hc))) (hp.ch hc) ha) fun g3 w3 v hs3 hv => ?_));obtain ⟨y, rfl, ry⟩ := hv;refine Zx y (Zi rfl rfl) rfl (Zx (Iz (f59 a).2.1) (Zi rfl rfl) rfl (Zx (Iz (f59 a).2.2) (Zi rfl rfl) rfl (Z4 rfl (Tx (g := g3) (a' := (f59 a).1) sizeOf24 rfl (b2.ext hs3) rfl ry fun g4 w4 hs4 b2 => (Zg (Iz (f59 a).2.1) rfl rfl (Zg (Iz (f59 a).2.2) rfl rfl (Z3 (Z9 ?_))))))));exact Fj rfl rfl b2 isAgg24 sizeOf24 rfl rfl rfl fun v rv => ⟨g4, (hfr.ext hs3).stp hs4, v, _, _, rfl, rv, rfl, rfl⟩
end

abbrev Hm := Str × Int × Fv
theorem Cx {m : Nat → Nat} {w : World} {q : Hm} {cs : List Value} (h : GoT.rep m w q cs) : cs = [q.1.v, Iz q.2.1, q.2.2.v] := by
 obtain ⟨c1, c2, rfl, h1, c3, c4, rfl, h2, h3⟩ := h;rw [show c1 = [q.1.v] from h1, show c3 = [Iz q.2.1] from h2, show c4 = [q.2.2.v] from h3]; rfl
theorem Ff : Uz Hm := fun _ _ _ _ _ _ h => h
def ChR (g : Gh) (w : World) (q : Hm) (c : Gi) : Prop := q.1 = c.Name ∧ q.2.1 = c.Chain.Hooks ∧ RV g.m w c.Chain.Cards q.2.2.v
def MB (g : Gh) (w : World) (b : Nat) (x : G4) : Prop :=
 ∃ vT vC, ∃ cr : List Hm, RB g w b 144 x.reader [vT, vC] ∧ OS 2 g w 108 x.mill.Ties vT ∧ RV g.m w x.mill.Ties vT ∧ OA 3 g w 94 cr vC ∧ cr.length = x.mill.Chains.length ∧ (∀ (i : Nat) (q : Hm) (c : Gi), cr[i]? = some q → x.mill.Chains[i]? = some c → ChR g w q c) ∧ ∀ (q : Hm) (c : Gi), cr.getLast? = some q → x.mill.Chains.getLast? = some c → OS 4 g w 96 c.Chain.Cards q.2.2.v
theorem HBm.gh {i b : Nat} {g g' : Gh} {w : World} {ob : Obj} (h : HBm i g w b ob) (hm : g'.m = g.m) (ho : ∀ b, g.o b = i → g'.o b = i) : HBm i g' w b ob := ⟨ho b h.1, (congrFun hm b).trans h.2.1, h.2.2⟩
theorem OS.gh {α : Type} [GoT α] {i : Nat} {g g' : Gh} {w : World} {t : TypeId} {xs : List α} {v : Value} (h : OS i g w t xs v) (hm : g'.m = g.m) (ho : ∀ b, g.o b = i → g'.o b = i) : OS i g' w t xs v := by
 rcases h with h | ⟨b, c, cs, hp, h1, h2, h3⟩
 ·exact .inl h
 ·exact .inr ⟨b, c, cs, hp, ho b h1, (congrFun hm b).trans h2, h3⟩
theorem OA.gh {α : Type} [GoT α] {i : Nat} {g g' : Gh} {w : World} {t : TypeId} {xs : List α} {v : Value} (h : OA i g w t xs v) (hm : g'.m = g.m) (ho : ∀ b, g.o b = i → g'.o b = i) : OA i g' w t xs v := by
 rcases h with h | ⟨b, c, cs, hp, h1, h2, h3, h4, h5, h6, h7⟩
 ·exact .inl h
 ·exact .inr ⟨b, c, cs, hp, ho b h1, (congrFun hm b).trans h2, h3, h4, h5, h6, by rw [hm]; exact h7⟩
theorem ChR.ch {g g' : Gh} {w w' : World} {q : Hm} {c : Gi} (h : ChR g w q c) (k : Ch g.m w g'.m w') : ChR g' w' q c := ⟨h.1, h.2.1, h.2.2.ch k⟩
section
variable {g g' : Gh} {w w' : World} {b : Nat} {x : G4}
theorem MB.gh (h : MB g w b x) (hm : g'.m = g.m) (ho : ∀ i b, rdr i = true → g.o b = i → g'.o b = i) : MB g' w b x := by
 obtain ⟨vT, vC, cr, h1, h2, h3, h4, h5, h6, h7⟩ := h;exact ⟨vT, vC, cr, HBm.gh h1 hm fun b => ho 1 b rfl, h2.gh hm fun b => ho 2 b rfl, hm ▸ h3, h4.gh hm fun b => ho 3 b rfl, h5, fun i q c hq hc => ⟨(h6 i q c hq hc).1, (h6 i q c hq hc).2.1, hm ▸ (h6 i q c hq hc).2.2⟩, fun q c hq hc => (h7 q c hq hc).gh hm fun b => ho 4 b rfl⟩
theorem MB.ext (h : MB g w b x) (k : Ext g w g' w') : MB g' w' b x := by
 obtain ⟨vT, vC, cr, h1, h2, h3, h4, h5, h6, h7⟩ := h;exact ⟨vT, vC, cr, HBm.ext h1 k, h2.ext k, h3.ext k, h4.ext k, h5, fun i q c hq hc => (h6 i q c hq hc).ch k.ch, fun q c hq hc => (h7 q c hq hc).ext k⟩
theorem MB.stp {j : Nat} (h : MB g w b x) (k : Stp j g w g' w') (hj : rdr j = false) : MB g' w' b x := by
 have hne : ∀ i, rdr i = true → Nat.beq i j = false := fun i hi => by
  cases hb : Nat.beq i j with
  | false => rfl
  | true => have := Nat.eq_of_beq_eq_true hb; subst this; rw [hi] at hj; cases hj
 obtain ⟨vT, vC, cr, h1, h2, h3, h4, h5, h6, h7⟩ := h;exact ⟨vT, vC, cr, HBm.stp h1 k (hne 1 rfl), h2.stp k (hne 2 rfl), h3.stp k, h4.stp k (hne 3 rfl), h5, fun i q c hq hc => (h6 i q c hq hc).ch k.ch, fun q c hq hc => (h7 q c hq hc).stp k (hne 4 rfl)⟩
theorem MB.rd (h : MB g w b x) : ∃ tl, RB g w b 144 x.reader tl ∧ ∀ g' w' y, Stp 1 g w g' w' → RB g' w' b 144 y tl → MB g' w' b ⟨y, x.mill⟩ := by
 obtain ⟨vT, vC, cr, h1, h2, h3, h4, h5, h6, h7⟩ := h;exact ⟨_, h1, fun g' w' y k hb => ⟨vT, vC, cr, hb, h2.stp k rfl, h3.stp k, h4.stp k rfl, h5, fun i q c hq hc => (h6 i q c hq hc).ch k.ch, fun q c hq hc => (h7 q c hq hc).stp k rfl⟩⟩
theorem MB.start (h : MB g w b x) : MB (ghR g) w b x := h.gh rfl fun _ _ hi hb => ghR_t hb hi
theorem MB.fin {gI : Gh} {wI : World} (h : MB g w b x) (hf : FrR gI wI g w) : MB (Pa gI wI g) w b x := h.gh rfl fun _ _ hi hb => hf.fin_o hb hi
theorem Lz {cr : List Hm} {v : Value} {i : Nat} {q : Hm} (h : OA 3 g w 94 cr v) (hi : cr[i]? = some q) : ∃ bc c, v = .slice (some ⟨bc, 0, none⟩) cr.length c ∧ ∃ cs, HBm 3 g w bc (.cells cs 94 (0, 0)) ∧ cs[i * 3]? = some q.1.v ∧ cs[i * 3 + 1]? = some (Iz q.2.1) ∧ cs[i * 3 + 2]? = some q.2.2.v := by
 rcases h with ⟨_, rfl⟩ | ⟨bc, c, cs, rfl, ho, hm, hh, h1, h2, h3, hf⟩
 ·cases hi
 obtain ⟨cl, hr, hc⟩ := hf.get hi;obtain rfl := Cx hr;have hlt : i < cr.length := (List.getElem?_eq_some_iff.1 hi).1;have k3 : GoT.k Hm = 3 := rfl;rw [k3] at hc
 have get : ∀ j v, [q.1.v, Iz q.2.1, q.2.2.v][j]? = some v → cs[i * 3 + j]? = some v := fun j v hj => by
  have h4 := hc j v hj;rw [List.getElem?_take] at h4;split at h4
  ·simpa using h4
  ·cases h4
 exact ⟨bc, c, rfl, cs, ⟨ho, hm, hh⟩, get 0 _ rfl, get 1 _ rfl, get 2 _ rfl⟩
end
def Hw (v : Value) (n : Nat) : Value :=
 match v with
 | .slice (some a) _ _ => bif Nat.beq n 0 then .pointer none else .pointer (some ⟨a.block, (n - 1) * 3, none⟩)
 | _ => .pointer none
theorem P_idxS {P : Program} {e : Env} {x y : Operand} {t et : TypeId} {bc n c k : Nat} {i : Int} (ht : P.underlying t = some (.slice et)) (hs : ∀ w, (sizeOf et).run P w = .ok k w) (hx : ev e x = .slice (some ⟨bc, 0, none⟩) n c) (hy : ev e y = Iz i) (h0 : 0 ≤ i) (h1 : i.toNat < n) :
  Pur P (.indexAddr t x y) e (.pointer (some ⟨bc, i.toNat * k, none⟩)) := fun _ _ _ _ _ w' => by
 have hl : i < (n : Int) := by omega
 simp [execOp, hx, hy, Instr.indexAt, asIntOf, Sem.run_bind, run_underlying ht, Result.andThen, h0, hl, hs, Wb]
section
variable {gI : Gh} {wI : World} {b : Nat} {x : G4}
theorem en122 : Enters prog 122 := enters_of func122 (by kernel_rfl) rfl
theorem U8 {g : Gh} {w : World} {b T : Nat} {y : Tm} {u v u' v' : Value} (h : RB g w b T y [u, v]) (h' : RB g w b T y [u', v']) : u = u' ∧ v = v' := by
 have e := h.2.2.symm.trans h'.2.2;simp at e;exact e
theorem wk122 {vT vC : Value} (hrd : RB gI wI b 144 x.reader [vT, vC]) (hb : MB gI wI b x) : Calls prog 122 #[.pointer (some ⟨b, 0, none⟩)] wI fun e w' => e = .returned (Hw vC x.mill.Chains.length) ∧ w' = wI := by
 obtain ⟨vT, vC, cr, h1, h2, h3, h4, h5, h6, h7⟩ := hb;obtain ⟨rfl, rfl⟩ := U8 hrd h1;refine (Calls.mono (Qp (R := fun v w' => v = Hw vC x.mill.Chains.length ∧ w' = wI) func122 rfl (Nat.le_of_ble_eq_true rfl) ?_) (fun r w' ⟨v, hr, hv, hw⟩ => ⟨by rw [hr, hv], hw⟩));show E _ 20 none _ _ _ _ _
 have hlen : ∃ a c, vC = .slice a x.mill.Chains.length c ∧ (0 < x.mill.Chains.length → ∃ bc, a = some ⟨bc, 0, none⟩) ∧ (x.mill.Chains.length = 0 → Hw vC 0 = .pointer none) ∧ x.mill.Chains.length ≤ maxLen := by
  rcases h4 with ⟨rfl, rfl⟩ | ⟨bc, c, cs, rfl, _, _, _, h8, h9, _⟩
  ·refine ⟨none, 0, by rw [← h5]; rfl, fun h => ?_, fun _ => rfl, by rw [← h5]; exact Nat.zero_le _⟩
   rw [← h5] at h; simp at h
  ·exact ⟨_, c, by rw [h5], fun _ => ⟨bc, rfl⟩, fun _ => rfl, by omega⟩
 obtain ⟨a, c, rfl, ha, hz, hmx⟩ := hlen;refine Z5 (Zg (.pointer none) rfl rfl (Z3 (Zf (Z5 (Zn (.pointer (some ⟨b, 0, none⟩)) rfl rfl (Zx (.pointer (some ⟨b, 0, none⟩)) (Z8 rfl) rfl (Zx (.pointer (some ⟨b, 3, none⟩)) (Tw Ko rfl) rfl (Zx (.pointer (some ⟨b, 4, none⟩)) (Tw Q9 rfl) rfl (Z4 rfl (Qu isAgg37 rfl (h1.cell.trans rfl) (Zx (Iz (x.mill.Chains.length : Int)) (Dn underlying37 rfl ⟨_, _, rfl⟩) rfl (Zg (Iz (x.mill.Chains.length : Int)) rfl rfl (Z3 (Z5 (Zn (Iz (x.mill.Chains.length : Int)) rfl rfl (Gd (.bool (decide ((x.mill.Chains.length : Int) > 0))) rfl rfl rfl rfl (Z3 ?_)))))))))))))))));by_cases hp : 0 < x.mill.Chains.length
 ·obtain ⟨bc, rfl⟩ := ha hp
  refine Gx (by simpa using hp) rfl (Z5 (Zn (.pointer (some ⟨b, 0, none⟩)) rfl rfl (Zx (.pointer (some ⟨b, 0, none⟩)) (Z8 rfl) rfl (Zx (.pointer (some ⟨b, 3, none⟩)) (Tw Ko rfl) rfl (Zx (.pointer (some ⟨b, 4, none⟩)) (Tw Q9 rfl) rfl (Z4 rfl (Qu isAgg37 rfl (h1.cell.trans rfl) (Zn (Iz (x.mill.Chains.length : Int)) rfl rfl (Gd (Iz (w64 ((x.mill.Chains.length : Int) - 1))) rfl rfl rfl rfl ?_)))))))));have hmx' : x.mill.Chains.length ≤ 9223372036854775807 := hmx
  have hw : w64 ((x.mill.Chains.length : Int) - 1) = ((x.mill.Chains.length - 1 : Nat) : Int) := by rw [T9 (by omega) (by omega)]; omega
  refine Zx (.pointer (some ⟨bc, (w64 ((x.mill.Chains.length : Int) - 1)).toNat * 3, none⟩)) (P_idxS underlying37 sizeOf94 rfl rfl (by rw [hw]; omega) (by rw [hw, Int.toNat_natCast]; omega)) rfl (Zg (.pointer (some ⟨bc, (w64 ((x.mill.Chains.length : Int) - 1)).toNat * 3, none⟩)) rfl rfl (Z3 (Z9 (Gf (G0 (v := .pointer (some ⟨bc, (w64 ((x.mill.Chains.length : Int) - 1)).toNat * 3, none⟩)) rfl rfl rfl ⟨?_, rfl⟩)))));rw [hw, Int.toNat_natCast]
  have : Nat.beq x.mill.Chains.length 0 = false := by cases hq : Nat.beq x.mill.Chains.length 0 with
   | false => rfl
   | true => have := Nat.eq_of_beq_eq_true hq; omega
  simp [Hw, this]
 ·refine Gy (by simpa using hp) rfl (Zu (Zd (Z5 (Zg (.pointer none) rfl rfl (Z3 (Z9 ?_))))))
  have h0 : x.mill.Chains.length = 0 := by omega
  refine G0 (v := .pointer none) rfl rfl rfl ⟨?_, rfl⟩;rw [h0] at hz ⊢;exact (hz rfl).symm
theorem MB.lastc (hb : MB gI wI b x) {c : Gi} (hc : x.mill.Chains.getLast? = some c) : ∃ vT vC, ∃ cr : List Hm, ∃ q : Hm, ∃ bc cp cs, RB gI wI b 144 x.reader [vT, vC] ∧ vC = .slice (some ⟨bc, 0, none⟩) x.mill.Chains.length cp ∧ OA 3 gI wI 94 cr vC ∧ cr.length = x.mill.Chains.length ∧ cr[x.mill.Chains.length - 1]? = some q ∧ HBm 3 gI wI bc (.cells cs 94 (0, 0)) ∧
  cs[(x.mill.Chains.length - 1) * 3]? = some c.Name.v ∧ cs[(x.mill.Chains.length - 1) * 3 + 1]? = some (Iz c.Chain.Hooks) ∧ cs[(x.mill.Chains.length - 1) * 3 + 2]? = some q.2.2.v ∧ RV gI.m wI c.Chain.Cards q.2.2.v ∧ OS 4 gI wI 96 c.Chain.Cards q.2.2.v ∧ Hw vC x.mill.Chains.length = .pointer (some ⟨bc, (x.mill.Chains.length - 1) * 3, none⟩) ∧ OS 2 gI wI 108 x.mill.Ties vT ∧ RV gI.m wI x.mill.Ties vT ∧ ∀ (i : Nat) (q : Hm) (c : Gi), cr[i]? = some q → x.mill.Chains[i]? = some c → ChR gI wI q c := by
 obtain ⟨vT, vC, cr, h1, h2, h3, h4, h5, h6, h7⟩ := hb
 rw [List.getLast?_eq_getElem?] at hc
 have hlt : x.mill.Chains.length - 1 < x.mill.Chains.length := (List.getElem?_eq_some_iff.1 hc).1
 have hq : cr[x.mill.Chains.length - 1]? = some cr[x.mill.Chains.length - 1] := List.getElem?_eq_getElem (by omega)
 generalize cr[x.mill.Chains.length - 1] = q at hq
 obtain ⟨bc, cp, hv, cs, hh, c0, c1, c2⟩ := Lz h4 hq
 obtain ⟨r1, r2, r3⟩ := h6 _ q c hq hc
 refine ⟨vT, vC, cr, q, bc, cp, cs, h1, by rw [hv, h5], h4, h5, hq, hh, r1 ▸ c0, r2 ▸ c1, c2, r3, h7 q c (by rw [List.getLast?_eq_getElem?, h5]; exact hq) (by rw [List.getLast?_eq_getElem?]; exact hc), ?_, h2, h3, h6⟩
 have : Nat.beq x.mill.Chains.length 0 = false := by cases hq : Nat.beq x.mill.Chains.length 0 with
  | false => rfl
  | true => have := Nat.eq_of_beq_eq_true hq; omega
 simp [Hw, hv, this]
theorem MB.nol (hb : MB gI wI b x) (hc : x.mill.Chains.getLast? = none) (v : Value) : Hw v x.mill.Chains.length = .pointer none := by
 have h0 : x.mill.Chains.length = 0 := by rw [List.getLast?_eq_none_iff] at hc; rw [hc]; rfl
 rw [h0];unfold Hw;split <;> rfl
theorem Rn {a : Option Addr} (w : World) : (binOp .eql 195 (.pointer a) (.pointer none)).run prog w = .ok (.bool a.isNone) w := run_eql_pointer_nil w 195 a underlying195
def Oj (x : G4) : Bool := match x.mill.Chains.getLast? with
 | none => true
 | some c => decide ((c.Chain.Cards.length : Int) > 0)
def f125 (x : G4) : Option (PR Unit) := bnd (f64 x.reader (Oj x)) fun _ => some (.ok ())
theorem en125 : Enters prog 125 := enters_of func125 (by kernel_rfl) rfl
theorem wk125 (hb : MB gI wI b x) {r : PR Unit} (h : f125 x = some r) : FnS (Ext gI wI) prog 125 #[.pointer (some ⟨b, 0, none⟩)] wI (okR r fun _ _ _ v => v = .tuple #[]) (pnR 177 r) := by
 obtain ⟨vT, vC, hrd⟩ : ∃ vT vC, RB gI wI b 144 x.reader [vT, vC] := let ⟨vT, vC, _, h1, _⟩ := hb; ⟨vT, vC, h1⟩;have hcall := wk122 hrd hb;refine Hd func125 rfl (Nat.le_of_ble_eq_true rfl) ?_;show E _ 20 none _ _ _ _ _;refine Z5 (Zn (.pointer (some ⟨b, 0, none⟩)) rfl rfl (Z4 rfl (Qg (vs := [.pointer (some ⟨b, 0, none⟩)]) (R := fun v w' => v = Hw vC x.mill.Chains.length ∧ w' = wI) en122 (.cons rfl .nil) (Calls.mono hcall fun r w' ⟨h1, h2⟩ => ⟨_, h1, rfl, h2⟩) fun v w' hv => ?_)));obtain ⟨rfl, rfl⟩ := hv;refine Zg (Hw vC x.mill.Chains.length) rfl rfl (Z3 ?_);unfold f125 Oj at h
 cases hc : x.mill.Chains.getLast? with
 | none =>
  rw [hc] at h;rw [MB.nol hb hc];refine Qk (g := gI) (n := 14) [0, 1, 2, 3, 4, 5, 6, 7, 8, 9, 10, 11, 12, 13] [3] [0, 1, 2, 3, 4, 5, 6, 7, 8, 9, 10, 11, 12, 13] rfl Wk (by kernel_rfl) fun wc hx hlt => (Z6 (c := .pointer (some ⟨b, 0, none⟩)) rfl rfl .plain (Zk rfl) (Z6 (c := .pointer (some ⟨b, 0, none⟩)) rfl rfl .plain (Z8 rfl) (Z6 (c := .pointer (some ⟨b, 0, none⟩)) rfl rfl .plain (Tw Tr rfl) (Z6 (c := .pointer none) rfl rfl .plain (Zk rfl) (Z6 (c := .bool true) rfl rfl .plain (Ku (u1 := .pointer none) (u2 := .pointer none) (.inl rfl) rfl rfl ⟨_, rfl⟩ ⟨_, rfl⟩ fun w => Rn w) (Z6 (c := .bool true) rfl rfl .plain (Zk rfl) (Tk rfl (.no2 rfl rfl rfl rfl) (Tk rfl (.no2 rfl rfl rfl rfl) (Tk rfl (.no2 rfl rfl rfl rfl) (Tk rfl (.no2 rfl rfl rfl rfl) (Tk rfl (.no2 rfl rfl rfl rfl) (Tk rfl (.no2 rfl rfl rfl rfl) (Tk rfl (.no2 rfl rfl rfl rfl) (Z6 (c := .bool true) rfl rfl .plain (Zl rfl rfl) (Q7 (Qn (vs := [.pointer (some ⟨b, 0, none⟩), .bool true]) en64 (.cons rfl (.cons rfl .nil)) .plain rfl h (fun a ha => wk64 (hrd.ext hx) ha) (fun l e' g' w' hr hs => W0 hr (hx.trans hs)) (fun y g' w' v hs hR hx' hk => ?_)))))))))))))))));obtain rfl := sinj hk;exact Zb (Ho rfl rfl ⟨g', hx.trans hs, _, rfl, rfl⟩)
 | some c =>
  rw [hc] at h;obtain ⟨vT', vC', cr, q, bc, cp, cs, h1, hv, h4, h5, hq, hh, c0, c1, c2, r3, o3, hl, _, _, _⟩ := MB.lastc hb hc;obtain ⟨rfl, rfl⟩ := U8 hrd h1;rw [hl];refine Qk (g := gI) (n := 14) [0, 1, 2, 3, 4, 5, 6, 7, 8, 9, 10, 11, 12, 13] [3] [0, 1, 2, 3, 4, 5, 6, 7, 8, 9, 10, 11, 12, 13] rfl Wk (by kernel_rfl) fun wc hx hlt => (Z6 (c := .pointer (some ⟨b, 0, none⟩)) rfl rfl .plain (Zk rfl) (Z6 (c := .pointer (some ⟨b, 0, none⟩)) rfl rfl .plain (Z8 rfl) (Z6 (c := .pointer (some ⟨b, 0, none⟩)) rfl rfl .plain (Tw Tr rfl) (Z6 (c := .pointer (some ⟨bc, (x.mill.Chains.length - 1) * 3, none⟩)) rfl rfl .plain (Zk rfl) (Z6 (c := .bool false) rfl rfl .plain (Ku (u1 := .pointer (some ⟨bc, (x.mill.Chains.length - 1) * 3, none⟩)) (u2 := .pointer none) (.inl rfl) rfl rfl ⟨_, rfl⟩ ⟨_, rfl⟩ fun w => Rn w) (Z6 (c := .bool false) rfl rfl .plain (Zk rfl) (Z6 (c := .pointer (some ⟨bc, (x.mill.Chains.length - 1) * 3, none⟩)) rfl rfl (.yes2 rfl rfl rfl) (Zk rfl) (Z6 (c := .pointer (some ⟨bc, (x.mill.Chains.length - 1) * 3, none⟩)) rfl rfl (.yes2 rfl rfl rfl) (Z8 rfl) (Z6 (c := .pointer (some ⟨bc, (x.mill.Chains.length - 1) * 3 + 1, none⟩)) rfl rfl (.yes2 rfl rfl rfl) (Tw He rfl) (Z6 (c := .pointer (some ⟨bc, (x.mill.Chains.length - 1) * 3 + 2, none⟩)) rfl rfl (.yes2 rfl rfl rfl) (Tw (o := (x.mill.Chains.length - 1) * 3 + 1) Hg rfl) (Wu (n := 3) (c := q.2.2.v) rfl rfl (.yes2 rfl rfl rfl) (Jo isAgg90 hh c2 _) rfl rfl (Z6 (c := Iz (c.Chain.Cards.length : Int)) rfl rfl (.yes2 rfl rfl rfl) (G3 underlying90 rfl r3) (Z6 (c := .bool (decide ((c.Chain.Cards.length : Int) > 0))) rfl rfl (.yes2 rfl rfl rfl) (Gp rfl rfl rfl) (Z6 (c := .bool (decide ((c.Chain.Cards.length : Int) > 0))) rfl rfl .plain (Zl rfl rfl) (Q7 (Qn (vs := [.pointer (some ⟨b, 0, none⟩), .bool (decide ((c.Chain.Cards.length : Int) > 0))]) en64 (.cons rfl (.cons rfl .nil)) .plain rfl h (fun a ha => wk64 (hrd.ext hx) ha) (fun l e' g' w' hr hs => W0 hr (hx.trans hs)) (fun y g' w' v hs hR hx' hk => ?_)))))))))))))))));obtain rfl := sinj hk;exact Zb (Ho rfl rfl ⟨g', hx.trans hs, _, rfl, rfl⟩)
def f78 (s : Str) : Option (List Str) := bif decide (s.b.length < 4294967281) then some ((J5 32 s.b).map Str.mk) else none
theorem en78 : Enters prog 78 := enters_of func78 (by kernel_rfl) rfl
theorem Vx (s : List UInt8) : (Lib.splitB ⟨⟨[32]⟩⟩ 0 (Lib.countB ⟨⟨s⟩⟩ ⟨⟨[32]⟩⟩) ⟨⟨s⟩⟩).map Value.string = ((J5 32 s).map Str.mk).map Str.v := by
 have h := Lib.splitB_data ⟨⟨[32]⟩⟩ 0 (Lib.countB ⟨⟨s⟩⟩ ⟨⟨[32]⟩⟩) ⟨⟨s⟩⟩;have hc : Lib.countB ⟨⟨s⟩⟩ ⟨⟨[32]⟩⟩ = s.count 32 := Lib.count_one 32 s;rw [hc] at h ⊢;rw [show (ByteArray.mk ⟨[32]⟩).data.toList = [32] from rfl, show (ByteArray.mk ⟨s⟩).data.toList = s from rfl, Vf 32 _ s rfl] at h;rw [← h, List.map_map, List.map_map];rfl
theorem wk78 (hT : J7 gI.m wI) {s : Str} {r : List Str} (h : f78 s = some r) : Fn prog 78 #[s.v, Str.v ⟨[32]⟩] gI wI (fun m w v => RV m w r v) := by
 rcases Zt h with ⟨hl, h⟩ | ⟨_, h⟩;rotate_left
 ·cases h
 injection h with h;obtain ⟨_, _, _, hm, n, rfl⟩ := hT.max;refine Calls.mono (Tryz.strings_Split ⟨⟨s.b⟩⟩ ⟨⟨[32]⟩⟩ n wI (by have := of_decide_eq_true hl; exact this) hm (by decide)) ?_;rintro e w' ⟨rfl, rfl⟩;rw [Vx]
 have hlen : Lib.countB ⟨⟨s.b⟩⟩ ⟨⟨[32]⟩⟩ + 1 = r.length := by
  have h1 := Lib.splitB_all ⟨⟨[32]⟩⟩ (by decide) 0 _ ⟨⟨s.b⟩⟩ rfl;have h2 := congrArg List.length (Vx s.b);rw [List.length_map, h1, h] at h2;simpa using h2
 rw [h, hlen];refine ⟨_, rfl, _, X3 gI wI _ 9, Q4 rfl (Nat.le_refl _) fun _ => ⟨wI.heap.size, 0, rfl, by simp, ?_, fun i y hy => ⟨[y.v], rfl, fun j c hj => ?_⟩⟩⟩
 ·show 0 + r.length * GoT.k Str ≤ K6 gI.m wI.heap.size _ wI.heap.size
  rw [Tj]; simp [show GoT.k Str = 1 from rfl]
 ·rw [H5]
  have hj0 : j = 0 := by have := (List.getElem?_eq_some_iff.1 hj).1; simp at this; omega
  subst hj0;injection hj with hj;subst hj;simp [show GoT.k Str = 1 from rfl, hy]
def O7 (ws : List Str) (before : Str) : Option Bool :=
 bif decide ((ws.length : Int) ≥ 3) then (idx ws 1).bind fun u => (f145 u).bind fun n => bif n then some (!(Op.bytesLess u.b before.b || u.b == before.b)) else some false else some false
def f123 (x : Tm) (ws : List Str) (before : Str) : Option (PR Int) :=
 (O7 ws before).bind fun c => bnd (f64 x c) fun _ => (idx ws 2).bind fun u => bnd (f124 x u) fun h => (f100 1 24 [h]).bind fun c2 => bnd (f64 x c2) fun _ => some (.ok h)
theorem en123 : Enters prog 123 := enters_of func123 (by kernel_rfl) rfl
theorem wk123 (hT : J7 gI.m wI) {T : Nat} {tl : List Value} {y : Tm} (hb : RB gI wI b T y tl) {ws : List Str} {vW : Value} (rW : RV gI.m wI ws vW) {before : Str} {r : PR Int} (h : f123 y ws before = some r) : FnS (Ext gI wI) prog 123 #[.pointer (some ⟨b, 0, none⟩), vW, before.v] wI (okR r fun z _ _ v => v = Iz z) (pnR 177 r) := by
 obtain ⟨c, hcc, h⟩ := Z1 h;refine Hd func123 rfl (Nat.le_of_ble_eq_true rfl) ?_;show E _ 43 none _ _ _ _ _;refine Z5 (Zg (Iz 0) rfl rfl (Z3 (Y9 (fun e ds w' => ds = [] ∧ e 0 = .pointer (some ⟨b, 0, none⟩) ∧ e 1 = vW ∧ ∃ g', Ext gI wI g' w' ∧ ∃ u, idx ws 2 = some u ∧ (bnd (f124 y u) fun h => (f100 1 24 [h]).bind fun c2 => bnd (f64 y c2) fun _ => some (.ok h)) = some r) ?_ ?_)))
 ·unfold O7 at hcc
  rcases Zt hcc with ⟨h3, hcc⟩ | ⟨h3, hcc⟩
  ·obtain ⟨u, hu, hcc⟩ := Z1 hcc
   obtain ⟨nm, hnm, hcc⟩ := Z1 hcc;refine Zs (x := .tmp 16) isAgg9 sizeOf9 (Gn rW hu) fun vc rc hld => ?_;obtain rfl := Ts.1 rc;refine Zs (x := .tmp 22) isAgg9 sizeOf9 (Gn rW hu) fun vc rc2 hld2 => ?_;obtain rfl := Ts.1 rc2;refine Qk (g := gI) (n := 19) [0, 1, 2, 3, 4, 5, 6, 7, 8, 9, 11, 12, 13, 14, 15, 16, 17, 18] [1] [0, 1, 2, 3, 4, 5, 6, 7, 8, 9, 10, 11, 12, 13, 14, 15, 16, 17, 18] rfl Wk (by kernel_rfl) fun wc hx hlt => (Z6 (c := .pointer (some ⟨b, 0, none⟩)) rfl rfl .plain (Zk rfl) (Z6 (c := .pointer (some ⟨b, 0, none⟩)) rfl rfl .plain (Z8 rfl) (Z6 (c := .pointer (some ⟨b, 0, none⟩)) rfl rfl .plain (Tw Tr rfl) (Z6 (c := vW) rfl rfl .plain (Zk rfl) (Z6 (c := Iz (ws.length : Int)) rfl rfl .plain (G3 underlying104 rfl rW) (Z6 (c := .bool (decide ((ws.length : Int) ≥ 3))) rfl rfl .plain (Gp rfl rfl rfl) (Z6 (c := .bool (decide ((ws.length : Int) ≥ 3))) rfl rfl .plain (Zk rfl) (Z6 (c := vW) rfl rfl (.yes2 rfl rfl h3) (Zk rfl) (Z6 (c := Gq vW 1 1) rfl rfl (.yes2 rfl rfl h3) (Zh (α := Str) underlying104 sizeOf9 rfl rW rfl hu) (Jc (c := u.v) rfl rfl (.yes2 rfl rfl h3) hld rfl (W7 rfl rfl (.yes2 rfl rfl h3) (Zp (g := gI) (vs := [u.v]) en145 (.cons rfl .nil) (wk145 hnm) fun g2 w2 v hs2 hv => ?_))))))))))));subst hv;refine ⟨(hlt.ext hs2).toW, ?_⟩;refine Z6 (c := .bool nm) rfl rfl .plain (Zl rfl (by rw [h3]; rfl)) (Z6 (c := .bool nm) rfl rfl .plain (Zk rfl) ?_);have hs02 := hx.trans hs2;rcases Zt hcc with ⟨h4, hcc⟩ | ⟨h4, hcc⟩
   ·obtain rfl := sinj hcc
    refine Z6 (c := vW) rfl rfl (.yes2 rfl rfl h4) (Zk rfl) (Z6 (c := Gq vW 1 1) rfl rfl (.yes2 rfl rfl h4) (Zh (α := Str) underlying104 sizeOf9 rfl rW rfl hu) (Jc (c := u.v) rfl rfl (.yes2 rfl rfl h4) hld2 rfl (Z6 (c := before.v) rfl rfl (.yes2 rfl rfl h4) (Zk rfl) (Z6 (c := .bool (!(Op.bytesLess u.b before.b || u.b == before.b))) rfl rfl (.yes2 rfl rfl h4) (W2 rfl rfl rfl) (Z6 (c := .bool (!(Op.bytesLess u.b before.b || u.b == before.b))) rfl rfl .plain (Zl rfl (by rw [h4]; rfl)) (Q7 (Qn (vs := [.pointer (some ⟨b, 0, none⟩), .bool (!(Op.bytesLess u.b before.b || u.b == before.b))]) en64 (.cons rfl (.cons rfl .nil)) .plain rfl h (fun a ha => wk64 (hb.ext hs02) ha) (fun l e' g' w' hr hs => W0 hr (hs02.trans hs)) (fun y g' w' v hs hR hx' hk => ?_))))))));obtain ⟨u2, hu2, hk⟩ := Z1 hk;exact Zb ⟨rfl, rfl, rfl, g', hs02.trans hs, u2, hu2, hk⟩
   ·obtain rfl := sinj hcc
    refine Tk rfl (.no2 rfl rfl h4 rfl) (Tk rfl (.no2 rfl rfl h4 rfl) (Tk rfl (.no2 rfl rfl h4 rfl) (Tk rfl (.no2 rfl rfl h4 rfl) (Tk rfl (.no2 rfl rfl h4 rfl) (Z6 (c := .bool false) rfl rfl .plain (Zl rfl (by rw [h4]; rfl)) (Q7 (Qn (vs := [.pointer (some ⟨b, 0, none⟩), .bool false]) en64 (.cons rfl (.cons rfl .nil)) .plain rfl h (fun a ha => wk64 (hb.ext hs02) ha) (fun l e' g' w' hr hs => W0 hr (hs02.trans hs)) (fun y g' w' v hs hR hx' hk => ?_))))))));obtain ⟨_, hf⟩ := hR
    cases hf
  ·obtain rfl := sinj hcc
   refine Qk (g := gI) (n := 19) [0, 1, 2, 3, 4, 5, 6, 7, 8, 9, 11, 12, 13, 14, 15, 16, 17, 18] [1] [0, 1, 2, 3, 4, 5, 6, 7, 8, 9, 10, 11, 12, 13, 14, 15, 16, 17, 18] rfl Wk (by kernel_rfl) fun wc hx hlt => (Z6 (c := .pointer (some ⟨b, 0, none⟩)) rfl rfl .plain (Zk rfl) (Z6 (c := .pointer (some ⟨b, 0, none⟩)) rfl rfl .plain (Z8 rfl) (Z6 (c := .pointer (some ⟨b, 0, none⟩)) rfl rfl .plain (Tw Tr rfl) (Z6 (c := vW) rfl rfl .plain (Zk rfl) (Z6 (c := Iz (ws.length : Int)) rfl rfl .plain (G3 underlying104 rfl rW) (Z6 (c := .bool (decide ((ws.length : Int) ≥ 3))) rfl rfl .plain (Gp rfl rfl rfl) (Z6 (c := .bool (decide ((ws.length : Int) ≥ 3))) rfl rfl .plain (Zk rfl) (Tk rfl (.no2 rfl rfl h3 rfl) (Tk rfl (.no2 rfl rfl h3 rfl) (Tk rfl (.no2 rfl rfl h3 rfl) (Tk rfl (.no2 rfl rfl h3 rfl) (Z6 (c := .bool false) rfl rfl .plain (Zl rfl (by rw [h3]; rfl)) (Z6 (c := .bool false) rfl rfl .plain (Zk rfl) (Tk rfl (.no2 rfl rfl rfl rfl) (Tk rfl (.no2 rfl rfl rfl rfl) (Tk rfl (.no2 rfl rfl rfl rfl) ?_))))))))))))))));refine Tk rfl (.no2 rfl rfl rfl rfl) (Tk rfl (.no2 rfl rfl rfl rfl) (Z6 (c := .bool false) rfl rfl .plain (Zl rfl rfl) (Q7 (Qn (vs := [.pointer (some ⟨b, 0, none⟩), .bool false]) en64 (.cons rfl (.cons rfl .nil)) .plain rfl h (fun a ha => wk64 (hb.ext hx) ha) (fun l e' g' w' hr hs => W0 hr (hx.trans hs)) (fun y g' w' v hs hR hx' hk => ?_)))));obtain ⟨_, hf⟩ := hR
   cases hf
 rintro e ds w1 ⟨rfl, e0, e1, g1, hs1, u, hu, h⟩;have hb1 := hb.ext hs1;have rW1 := rW.ext hs1;refine Y9 (fun e ds w' => ds = [] ∧ e 0 = .pointer (some ⟨b, 0, none⟩) ∧ ∃ g' hk, Ext gI wI g' w' ∧ e 7 = Iz hk ∧ ((f100 1 24 [hk]).bind fun c2 => bnd (f64 y c2) fun _ => some (.ok hk)) = some r) ?_ ?_
 ·refine Zs (x := .tmp 32) isAgg9 sizeOf9 (Gn rW1 hu) fun vc rc hld => ?_
  obtain rfl := Ts.1 rc;refine Qk (g := g1) (n := 6) [0, 1, 2, 3, 4, 5] [1] [0, 1, 2, 3, 4, 5] rfl Wk (by kernel_rfl) fun wc hx hlt => (Z6 (c := .pointer (some ⟨b, 0, none⟩)) rfl rfl .plain (Zk e0) (Z6 (c := .pointer (some ⟨b, 0, none⟩)) rfl rfl .plain (Z8 rfl) (Z6 (c := .pointer (some ⟨b, 0, none⟩)) rfl rfl .plain (Tw Tr rfl) (Z6 (c := vW) rfl rfl .plain (Zk e1) (Z6 (c := Gq vW 2 1) rfl rfl .plain (Zh (α := Str) underlying104 sizeOf9 rfl rW1 rfl hu) (Jc (c := u.v) rfl rfl .plain hld rfl (Q7 (Qn (vs := [.pointer (some ⟨b, 0, none⟩), u.v]) en124 (.cons rfl (.cons rfl .nil)) .plain rfl h (fun a ha => wk124 (hT.ch (hs1.ch.trans hx.ch)) (hb1.ext hx) ha) (fun l e' g' w' hr hs => W0 hr (hs1.trans (hx.trans hs))) (fun k g' w' v hs hR hx' hk => ?_)))))))));obtain rfl := hR;refine Zg (Iz k) rfl rfl ?_;exact Zb ⟨rfl, e0, g', k, hs1.trans (hx.trans hs), rfl, hk⟩
 rintro e ds w2 ⟨rfl, e0, g2, k, hs2, e7, h⟩;obtain ⟨c2, hc2, h⟩ := Z1 h;have hb2 := hb.ext hs2;refine Zf (Qk (g := g2) (n := 6) [0, 1, 2, 3] [1] [0, 1, 2, 3, 4, 5] rfl Wk (by kernel_rfl) fun wc hx hlt => (Z6 (c := .pointer (some ⟨b, 0, none⟩)) rfl rfl .plain (Zk e0) (Z6 (c := .pointer (some ⟨b, 0, none⟩)) rfl rfl .plain (Z8 rfl) (Z6 (c := .pointer (some ⟨b, 0, none⟩)) rfl rfl .plain (Tw Tr rfl) (Z6 (c := Iz k) rfl rfl .plain (Zk e7) (W7 rfl rfl .plain (Ga (g := g2) 7 (xs := ([k] : List Int)) (vs := [Iz k]) underlying22 sizeOf3 zeroValue3 rfl rfl (.cons rfl .nil) (RVs.cons (Zj.2 rfl) RVs.nil) rfl rfl fun g3 w3 v3 _ _ r3 hx3 _ => ?_)))))));have hlt := hlt.ext hx3;refine ⟨hlt.toW, ?_⟩;refine W7 rfl rfl .plain (Zp (g := g3) (vs := [Iz 1, Iz 24, v3]) en100 (.cons rfl (.cons rfl (.cons rfl .nil))) (wk100 r3 hc2) fun g4 w4 v hs4 hv => ?_);subst hv;refine ⟨(hlt.ext hs4).toW, ?_⟩;refine Q7 ?_;have hs24 := hx.trans (hx3.trans hs4);refine Qn (vs := [.pointer (some ⟨b, 0, none⟩), .bool c2]) en64 (.cons rfl (.cons rfl .nil)) .plain rfl h (fun a ha => wk64 (hb2.ext hs24) ha) (fun l e' g' w' hr hs => W0 hr (hs2.trans (hs24.trans hs))) (fun z g' w' v hs hR hx' hk => ?_);obtain rfl := sinj hk;refine Z3 (Z5 (Zo e7 rfl (Zg (Iz k) rfl rfl (Z3 (Z9 ?_)))));exact G0 rfl rfl rfl ⟨g', hs2.trans (hs24.trans hs), _, rfl, rfl⟩
end

section
variable {gI : Gh} {wI : World} {b : Nat} {x : G4}
def f82c (x : Tm) (n1 n2 : Int) : Option Bool := bif n1 != w64 (x.line - 1) then some true else (f126 x).bind fun s => (f70 s).bind fun m => some (n2 != m)
def f82r (x : Tm) (n1 n2 : Int) : Option (PR Unit) :=
 bif !(x.rest.b == []) then bnd (f61 ⟨x.text, x.rest, w64 (x.line + 1)⟩ 4) fun _ => none
 else (f82c x n1 n2).bind fun c => bif c then bnd (f61 x 130) fun _ => none else some (.ok ())
def f82 (x : G4) (ws : List Str) : Option (PR Unit) :=
 bnd (f125 x) fun _ => bnd (f64 x.reader ((ws.length : Int) == 3)) fun _ => (idx ws 1).bind fun u1 => (idx ws 2).bind fun u2 =>
  bnd (f124 x.reader u1) fun n1 => bnd (f124 x.reader u2) fun n2 => f82r x.reader n1 n2
theorem en82 : Enters prog 82 := enters_of func82 (by kernel_rfl) rfl
theorem wk82 (hT : J7 gI.m wI) (hm : MB gI wI b x) {ws : List Str} {vW : Value} (rW : RV gI.m wI ws vW) {r : PR Unit} (h : f82 x ws = some r) : FnS (Stp 1 gI wI) prog 82 #[.pointer (some ⟨b, 0, none⟩), vW] wI (okR r fun _ g w v => v = .tuple #[] ∧ Ext gI wI g w) (pnR 177 r) := by
 obtain ⟨vT, vC, hb⟩ : ∃ vT vC, RB gI wI b 144 x.reader [vT, vC] := let ⟨vT, vC, _, h1, _⟩ := hm; ⟨vT, vC, h1⟩;refine Hd func82 rfl (Nat.le_of_ble_eq_true rfl) ?_;show E _ 69 none _ _ _ _ _;refine Z5 (Zn (.pointer (some ⟨b, 0, none⟩)) rfl rfl (Qn (vs := [.pointer (some ⟨b, 0, none⟩)]) en125 (.cons rfl .nil) .plain rfl h (fun a ha => wk125 hm ha) (fun l e' g' w' hr hs => W0 hr (hs.stp)) (fun y g1 w1 v hs1 hR hx1 h => ?_)));have hb1 := hb.ext hs1;have rW1 := rW.ext hs1;refine Z3 (Z5 (Zn (.pointer (some ⟨b, 0, none⟩)) rfl rfl (Zx (.pointer (some ⟨b, 0, none⟩)) (Z8 rfl) rfl (Zx (.pointer (some ⟨b, 0, none⟩)) (Tw Tr rfl) rfl (Zn (vW) rfl rfl (Zx (Iz (ws.length : Int)) (G3 underlying104 rfl rW1) rfl (Gd (.bool ((ws.length : Int) == 3)) rfl rfl rfl rfl (Qn (vs := [.pointer (some ⟨b, 0, none⟩), .bool ((ws.length : Int) == 3)]) en64 (.cons rfl (.cons rfl .nil)) .plain rfl h (fun a ha => wk64 hb1 ha) (fun l e' g' w' hr hs => W0 hr ((hs1.trans hs).stp)) (fun y g2 w2 v hs2 hR hx2 h => ?_)))))))));have hb2 := hb1.ext hs2;have rW2 := rW1.ext hs2;have hs12 := hs1.trans hs2;obtain ⟨u1, hu1, h⟩ := Z1 h;obtain ⟨u2, hu2, h⟩ := Z1 h;refine Z3 (Zf (Zs (x := .tmp 19) isAgg9 sizeOf9 (Gn rW2 hu1) fun vc rc hld1 => ?_));obtain rfl := Ts.1 rc;refine Zs (x := .tmp 26) isAgg9 sizeOf9 (Gn rW2 hu2) fun vc rc2 hld2 => ?_;obtain rfl := Ts.1 rc2;refine Sl (g := g2) (n := 14) (Pk (Stp 1 gI wI) (pnR 177 r)) [0, 1, 2, 3, 4, 5, 7, 8, 9, 10, 11, 12] [1] [6, 13] [0, 1, 2, 3, 4, 5, 7, 8, 9, 10, 11, 12, 6, 13] Wk (by kernel_rfl) (fun c e w h => ⟨rfl, h⟩) fun wc hx hlt => (Wz (c := .pointer (some ⟨b, 0, none⟩)) rfl rfl rfl .plain (Zk rfl) (Wz (c := .pointer (some ⟨b, 0, none⟩)) rfl rfl rfl .plain (Z8 rfl) (Wz (c := .pointer (some ⟨b, 0, none⟩)) rfl rfl rfl .plain (Tw Tr rfl) (Wz (c := vW) rfl rfl rfl .plain (Zk rfl) (Wz (c := Gq vW 1 1) rfl rfl rfl .plain (Zh (α := Str) underlying104 sizeOf9 rfl rW2 rfl hu1) (Py (c := u1.v) rfl rfl rfl .plain hld1 rfl (Wz (c := .pointer (some ⟨b, 0, none⟩)) rfl rfl rfl .plain (Zk rfl) (Wz (c := .pointer (some ⟨b, 0, none⟩)) rfl rfl rfl .plain (Z8 rfl) (Wz (c := .pointer (some ⟨b, 0, none⟩)) rfl rfl rfl .plain (Tw Tr rfl) (Wz (c := vW) rfl rfl rfl .plain (Zk rfl) (Wz (c := Gq vW 2 1) rfl rfl rfl .plain (Zh (α := Str) underlying104 sizeOf9 rfl rW2 rfl hu2) (Py (c := u2.v) rfl rfl rfl .plain hld2 rfl (Rs (vs := [.pointer (some ⟨b, 0, none⟩), u1.v]) rfl rfl .plain en124 (.cons rfl (.cons rfl .nil)) h (fun a ha => wk124 (hT.ch (hs12.ch.trans hx.ch)) (hb2.ext hx) ha) (fun l e' g' w' hr hs => ⟨⟨l, e', hr, rfl⟩, g', (hs12.trans (hx.trans hs)).stp⟩) (fun n1 g3 w3 v hs3 hR hx3 h => ?_))))))))))))));obtain rfl := hR;have hlt := hlt.ext hs3;refine ⟨hlt.toW, ?_⟩;have hx3 := hx.trans hs3;refine Rs (vs := [.pointer (some ⟨b, 0, none⟩), u2.v]) rfl rfl .plain en124 (.cons rfl (.cons rfl .nil)) h (fun a ha => wk124 (hT.ch (hs12.ch.trans hx3.ch)) (hb2.ext hx3) ha) (fun l e' g' w' hr hs => ⟨⟨l, e', hr, rfl⟩, g', (hs12.trans (hx3.trans hs)).stp⟩) (fun n2 g4 w4 v hs4 hR hx4 h => ?_);obtain rfl := hR;refine ⟨(hlt.ext hs4).toW, ?_⟩;refine Fz ?_;have hs4 := hs12.trans (hx3.trans hs4);have hb4 := hb.ext hs4;refine Zg (Iz n1) rfl rfl (Zg (Iz n2) rfl rfl (Z3 (Zf (Z5 ?_))));unfold f82r at h;refine Zn (.pointer (some ⟨b, 0, none⟩)) rfl rfl (Zx (.pointer (some ⟨b, 0, none⟩)) (Z8 rfl) rfl (Zx (.pointer (some ⟨b, 0, none⟩)) (Tw Tr rfl) rfl (Zx (.pointer (some ⟨b, 1, none⟩)) (Tw Ua rfl) rfl (Z4 rfl (Qu isAgg9 rfl (hb4.cell.trans rfl) (Zx (.bool (!(x.reader.rest.b == []))) (W2 (a := x.reader.rest) (b := ⟨[]⟩) rfl rfl rfl) rfl (Z3 ?_)))))));rcases Zt h with ⟨hc, h⟩ | ⟨hc, h⟩
 ·refine Gx hc rfl (Z5 (Zn (.pointer (some ⟨b, 0, none⟩)) rfl rfl (Zx (.pointer (some ⟨b, 0, none⟩)) (Z8 rfl) rfl (Zx (.pointer (some ⟨b, 0, none⟩)) (Tw Tr rfl) rfl (Zx (.pointer (some ⟨b, 2, none⟩)) (Tw Ky rfl) rfl (Z4 rfl (Qu isAgg3 rfl (hb4.cell.trans rfl) (Gd (Iz (w64 (x.reader.line + 1))) rfl rfl rfl rfl (Zx (.pointer (some ⟨b, 0, none⟩)) (Z8 rfl) rfl (Zx (.pointer (some ⟨b, 0, none⟩)) (Tw Tr rfl) rfl (Zx (.pointer (some ⟨b, 2, none⟩)) (Tw Ky rfl) rfl (Z4 rfl (Kc (c := Iz (w64 (x.reader.line + 1))) sizeOf3 rfl rfl rfl (by simp) hb4 fun w5 hs5 hb5 _ => ?_)))))))))))))
  have hb5 : RB g4 w5 b 144 ⟨x.reader.text, x.reader.rest, w64 (x.reader.line + 1)⟩ [vT, vC] := hb5;refine Z3 (Za (Zn (.pointer (some ⟨b, 0, none⟩)) rfl rfl (Zx (.pointer (some ⟨b, 0, none⟩)) (Z8 rfl) rfl (Zx (.pointer (some ⟨b, 0, none⟩)) (Tw Tr rfl) rfl (Qn (vs := [.pointer (some ⟨b, 0, none⟩), Iz 4]) en61 (.cons rfl (.cons rfl .nil)) .plain rfl h (fun a ha => wk61 hb5 ha) (fun l e' g' w' hr hs => W0 hr (hs4.stp.trans (hs5.trans hs.stp))) (fun y g' w' v hs hR hx h => by cases hx))))))
 refine Gy hc rfl (Zu (Zd ?_));obtain ⟨c, hcc, h⟩ := Z1 h;refine Y9 (fun e ds w' => ds = [] ∧ e 0 = .pointer (some ⟨b, 0, none⟩) ∧ e 64 = .bool c ∧ ∃ g', Ext gI wI g' w') (Za ?_) ?_
 ·refine Zn (Iz n1) rfl rfl (Zn (.pointer (some ⟨b, 0, none⟩)) rfl rfl (Zx (.pointer (some ⟨b, 0, none⟩)) (Z8 rfl) rfl (Zx (.pointer (some ⟨b, 0, none⟩)) (Tw Tr rfl) rfl (Zx (.pointer (some ⟨b, 2, none⟩)) (Tw Ky rfl) rfl (Z4 rfl (Qu isAgg3 rfl (hb4.cell.trans rfl) (Gd (Iz (w64 (x.reader.line - 1))) rfl rfl rfl rfl (Gd (.bool (n1 != w64 (x.reader.line - 1))) rfl rfl rfl rfl (Zn (.bool (n1 != w64 (x.reader.line - 1))) rfl rfl ?_)))))))))
  unfold f82c at hcc;rcases Zt hcc with ⟨h7, hcc⟩ | ⟨h7, hcc⟩
  ·obtain rfl := sinj hcc
   refine Zz rfl rfl h7 rfl rfl (Zz rfl rfl h7 rfl rfl (Zz rfl rfl h7 rfl rfl (Zz rfl rfl h7 rfl rfl (Zz rfl rfl h7 rfl rfl (Zz rfl rfl h7 rfl rfl (Zz rfl rfl h7 rfl rfl (Zx (.bool true) (Zl rfl (by rw [h7]; rfl)) rfl ?_)))))));exact Zb ⟨rfl, rfl, rfl, g4, hs4⟩
  ·obtain ⟨s, hs, hcc⟩ := Z1 hcc
   obtain ⟨m, hm2, hcc⟩ := Z1 hcc;obtain rfl := sinj hcc;refine Zy (Iz n2) (Zk rfl) rfl rfl h7 rfl (Zy (.pointer (some ⟨b, 0, none⟩)) (Zk rfl) rfl rfl h7 rfl (Zy (.pointer (some ⟨b, 0, none⟩)) (Z8 rfl) rfl rfl h7 rfl (Zy (.pointer (some ⟨b, 0, none⟩)) (Tw Tr rfl) rfl rfl h7 rfl (Ze (.yes2 rfl rfl h7) rfl (Qg (vs := [.pointer (some ⟨b, 0, none⟩)]) (R := fun v w' => ∃ g', Ext g4 w4 g' w' ∧ v = s.v) en126 (.cons rfl .nil) (wk126 hb4 hs) fun v w5 hv => ?_)))));obtain ⟨g5, hs5, rfl⟩ := hv;refine Ze (.yes2 rfl rfl h7) rfl (Zp (g := g5) (vs := [s.v]) en70 (.cons rfl .nil) (wk70 hm2) fun g6 w6 v hs6 hv => ?_);subst hv;refine Zy (.bool (n2 != m)) (Gp rfl rfl rfl) rfl rfl h7 rfl (Zx (.bool (n2 != m)) (Zl rfl (by rw [h7]; rfl)) rfl ?_);exact Zb ⟨rfl, rfl, rfl, g6, hs4.trans (hs5.trans hs6)⟩
 rintro e ds w5 ⟨rfl, e0, e64, g5, hs5⟩;have hb5 := hb.ext hs5;rcases Zt h with ⟨hc, h⟩ | ⟨hc, h⟩
 ·refine Gx hc e64 (Za (Zo e0 rfl (Zx (.pointer (some ⟨b, 0, none⟩)) (Z8 rfl) rfl (Zx (.pointer (some ⟨b, 0, none⟩)) (Tw Tr rfl) rfl (Qn (vs := [.pointer (some ⟨b, 0, none⟩), Iz 130]) en61 (.cons rfl (.cons rfl .nil)) .plain rfl h (fun a ha => wk61 hb5 ha) (fun l e' g' w' hr hs => W0 hr ((hs5.trans hs).stp)) (fun y g' w' v hs hR hx h => by cases hx))))))
 ·refine Gy hc e64 (Zu ?_)
  obtain rfl := sinj h;exact Ho rfl rfl ⟨g5, hs5.stp, _, rfl, rfl, hs5⟩
end

section
variable {gI : Gh} {wI : World} {b : Nat} {x : G4}
theorem S6 {a : Option Addr} (w : World) : (binOp .neq 195 (.pointer a) (.pointer none)).run prog w = .ok (.bool !a.isNone) w := run_neq_pointer_nil w 195 a underlying195
theorem M8 : T5 prog 92 = some ([Iz 0, .slice none 0 0], [(0, 1), (1, 1)]) := by kernel_rfl
theorem N5 : T5 prog 94 = some ([Str.v ⟨[]⟩, Iz 0, .slice none 0 0], [(0, 1), (1, 2)]) := by kernel_rfl
theorem Pv : (prog.info? 94).map (fun i => (i.zero, i.size, i.bytes)) = some (some (.agg #[Str.v ⟨[]⟩, Iz 0, .slice none 0 0]), 3, 48) := by kernel_rfl
theorem Mw {α β : Type} {n : Nat} {xs ys r : List α} {us vs : List β} (h : apnd n xs ys = some r) (h1 : us.length = xs.length) (h2 : vs.length = ys.length) : apnd n us vs = some (us ++ vs) ∧ r = xs ++ ys := by
 unfold apnd at h ⊢;rw [h1, h2];split at h
 ·rename_i hc
  injection h with h;exact ⟨by rw [if_pos hc], h.symm⟩
 ·cases h
theorem OA.csz1' {α : Type} [GoT α] {i : Nat} {g : Gh} {w : World} {t : TypeId} {xs : List α} {v : Value} (h : OA i g w t xs v) : v.oneCell' = true := by rcases h with ⟨rfl, _⟩ | ⟨b, c, cs, rfl, _⟩ <;> rfl
theorem MB.push {g : Gh} {w : World} {vT v : Value} {cr : List Hm} {u : Str} {k : Int} (hb : RB g w b 144 x.reader [vT, v]) (h2 : OS 2 g w 108 x.mill.Ties vT) (h3 : RV g.m w x.mill.Ties vT) (h4 : OA 3 g w 94 (cr ++ [(u, k, ⟨.slice none 0 0, rfl⟩)]) v) (h5 : cr.length = x.mill.Chains.length) (h6 : ∀ (i : Nat) (q : Hm) (c : Gi), cr[i]? = some q → x.mill.Chains[i]? = some c → ChR g w q c) :
  MB g w b ⟨x.reader, ⟨x.mill.Ties, x.mill.Chains ++ [⟨u, ⟨k, []⟩⟩]⟩⟩ := by
 refine ⟨vT, v, _, hb, h2, h3, h4, by simp [h5], fun i q c hq hc => ?_, fun q c hq hc => ?_⟩
 ·simp only at hc
  by_cases hi : i < cr.length
  ·rw [List.getElem?_append_left hi] at hq
   rw [List.getElem?_append_left (by omega)] at hc
   exact h6 i q c hq hc
  ·rw [List.getElem?_append_right (by omega)] at hq hc
   rw [h5] at hq
   cases hj : i - x.mill.Chains.length with
   | zero =>
    rw [hj] at hq hc
    simp at hq hc
    subst hq; subst hc
    exact ⟨rfl, rfl, Tp⟩
   | succ j => rw [hj] at hc; simp at hc
 ·simp at hq hc
  subst hq; subst hc
  exact OS.nil
def Fx (x : G4) : Str := match x.mill.Chains.getLast? with
 | none => ⟨[]⟩
 | some c => c.Name
def f80 (x : G4) (ws : List Str) : Option (PR G4) :=
 bnd (f125 x) fun _ => bnd (f64 x.reader (bif decide ((x.mill.Chains.length : Int) < 8) then (ws.length : Int) == 3 else false)) fun _ =>
  bnd (f123 x.reader ws (Fx x)) fun k => (idx ws 1).bind fun u => (apnd 48 x.mill.Chains [⟨u, ⟨k, []⟩⟩]).bind fun cs => some (.ok ⟨x.reader, ⟨x.mill.Ties, cs⟩⟩)
theorem en80 : Enters prog 80 := enters_of func80 (by kernel_rfl) rfl
theorem wk80 (hT : J7 gI.m wI) (hm : MB gI wI b x) {ws : List Str} {vW : Value} (rW : RV gI.m wI ws vW) {r : PR G4} (h : f80 x ws = some r) : FnS (Bk gI wI) prog 80 #[.pointer (some ⟨b, 0, none⟩), vW] wI (okR r fun y g w v => v = .tuple #[] ∧ MB g w b y) (pnR 177 r) := by
 refine Dk func80 rfl (Nat.le_of_ble_eq_true rfl) fun hfr => ?_;show E _ 54 none _ _ _ _ _;have hm := hm.start;have hT : J7 (ghR gI).m wI := hT;have rW : RV (ghR gI).m wI ws vW := rW;generalize ghR gI = g0 at *;obtain ⟨vT, vC, hb⟩ : ∃ vT vC, RB g0 wI b 144 x.reader [vT, vC] := let ⟨vT, vC, _, h1, _⟩ := hm; ⟨vT, vC, h1⟩;refine Z5 (Zg (Str.v ⟨[]⟩) rfl rfl (Z3 (Kl (fun e ds w' => ds = [] ∧ e 0 = .pointer (some ⟨b, 0, none⟩) ∧ e 1 = vW ∧ e 4 = (Fx x).v ∧ w' = wI) (fun Q' hQ' => ?_) ?_)))
 ·refine Z5 (Zn (.pointer (some ⟨b, 0, none⟩)) rfl rfl (Z4 rfl (Qg (vs := [.pointer (some ⟨b, 0, none⟩)]) (R := fun v w' => v = Hw vC x.mill.Chains.length ∧ w' = wI) en122 (.cons rfl .nil) (Calls.mono (wk122 hb hm) fun r w' ⟨h1, h2⟩ => ⟨_, h1, rfl, h2⟩) fun v w' hv => ?_)))
  obtain ⟨rfl, rfl⟩ := hv;refine Zg (Hw vC x.mill.Chains.length) rfl rfl (Z3 (Z5 (Zn (Hw vC x.mill.Chains.length) rfl rfl ?_)))
  cases hc : x.mill.Chains.getLast? with
  | none =>
   rw [MB.nol hm hc];refine Zx (.bool false) (Ku (u1 := .pointer none) (u2 := .pointer none) (.inr rfl) rfl rfl ⟨_, rfl⟩ ⟨_, rfl⟩ fun w => S6 w) rfl (Z3 (Gy rfl rfl (Zu ?_)));exact hQ' _ _ _ ⟨rfl, rfl, rfl, by unfold Fx; rw [hc]; rfl, rfl⟩
  | some c =>
   obtain ⟨vT', vC', cr, q, bc, cp, cs, h1, hv, h4, h5, hq, hh, c0, c1, c2, r3, o3, hl, _, _, _⟩ := MB.lastc hm hc;obtain ⟨rfl, rfl⟩ := U8 hb h1;rw [hl];refine Zx (.bool true) (Ku (u1 := .pointer (some ⟨bc, (x.mill.Chains.length - 1) * 3, none⟩)) (u2 := .pointer none) (.inr rfl) rfl rfl ⟨_, rfl⟩ ⟨_, rfl⟩ fun w => S6 w) rfl (Z3 (Gx rfl rfl (Za (Zn (.pointer (some ⟨bc, (x.mill.Chains.length - 1) * 3, none⟩)) rfl rfl (Zx (.pointer (some ⟨bc, (x.mill.Chains.length - 1) * 3, none⟩)) (Z8 rfl) rfl (Zx (.pointer (some ⟨bc, (x.mill.Chains.length - 1) * 3, none⟩)) (Tw (o := (x.mill.Chains.length - 1) * 3) Yl rfl) rfl (Z4 rfl (Qu isAgg9 rfl (hh.cell.trans c0) (Zg (c.Name.v) rfl rfl ?_)))))))));exact Zb (hQ' _ _ _ ⟨rfl, rfl, rfl, by unfold Fx; rw [hc]; rfl, rfl⟩)
 rintro e ds w1 ⟨rfl, e0, e1, e4, rfl⟩;refine Z5 (Zo e0 rfl (Qn (vs := [.pointer (some ⟨b, 0, none⟩)]) en125 (.cons rfl .nil) .plain rfl h (fun a ha => wk125 hm ha) (fun l e' g' w' hr hs => W0 hr (hfr.ext hs)) (fun y g1 w1 v hs1 hR hx1 h => ?_)));have hfr := hfr.ext hs1;have hm := hm.ext hs1;have rW := rW.ext hs1;have hT := hT.ch hs1.ch;have hb := hb.ext hs1;obtain ⟨vT', vC', cr, h1, h2, h3, h4, h5, h6, h7⟩ := hm;obtain ⟨rfl, rfl⟩ := U8 hb h1
 have hsl : ∃ a c, vC = .slice a x.mill.Chains.length c := by
  rcases h4 with ⟨rfl, rfl⟩ | ⟨bc, c, cs, rfl, _⟩
  ·exact ⟨none, 0, by rw [← h5]; rfl⟩
  ·exact ⟨_, c, by rw [h5]⟩
 refine Z3 (Y9 (fun e ds w' => ds = [] ∧ e 0 = .pointer (some ⟨b, 0, none⟩) ∧ e 1 = vW ∧ e 4 = (Fx x).v ∧ ∃ g', Ext g1 w1 g' w' ∧ (bnd (f123 x.reader ws (Fx x)) fun k => (idx ws 1).bind fun u => (apnd 48 x.mill.Chains [⟨u, ⟨k, []⟩⟩]).bind fun cs => some (.ok ⟨x.reader, ⟨x.mill.Ties, cs⟩⟩)) = some r) ?_ ?_)
 ·cases h8 : decide ((x.mill.Chains.length : Int) < 8) with
  | true =>
   rw [h8] at h;refine Qk (g := g1) (n := 15) [0, 1, 2, 3, 4, 5, 6, 7, 8, 9, 10, 11, 12, 13, 14] [1] [0, 1, 2, 3, 4, 5, 6, 7, 8, 9, 10, 11, 12, 13, 14] rfl Wk (by kernel_rfl) fun wc hx hlt => (Z6 (c := .pointer (some ⟨b, 0, none⟩)) rfl rfl .plain (Zk e0) (Z6 (c := .pointer (some ⟨b, 0, none⟩)) rfl rfl .plain (Z8 rfl) (Z6 (c := .pointer (some ⟨b, 0, none⟩)) rfl rfl .plain (Tw Tr rfl) (Z6 (c := .pointer (some ⟨b, 0, none⟩)) rfl rfl .plain (Zk e0) (Z6 (c := .pointer (some ⟨b, 0, none⟩)) rfl rfl .plain (Z8 rfl) (Z6 (c := .pointer (some ⟨b, 3, none⟩)) rfl rfl .plain (Tw Ko rfl) (Z6 (c := .pointer (some ⟨b, 4, none⟩)) rfl rfl .plain (Tw Q9 rfl) (Wu (n := 1) (c := vC) rfl rfl .plain (Jo isAgg37 hb rfl _) rfl rfl (Z6 (c := Iz (x.mill.Chains.length : Int)) rfl rfl .plain (Dn underlying37 rfl hsl) (Z6 (c := .bool true) rfl rfl .plain (Gp rfl rfl (congrArg (fun z => some (Value.bool z)) h8)) (Z6 (c := .bool true) rfl rfl .plain (Zk rfl) (Z6 (c := vW) rfl rfl (.yes2 rfl rfl rfl) (Zk e1) (Z6 (c := Iz (ws.length : Int)) rfl rfl (.yes2 rfl rfl rfl) (G3 underlying104 rfl rW) (Z6 (c := .bool ((ws.length : Int) == 3)) rfl rfl (.yes2 rfl rfl rfl) (Gp rfl rfl rfl) (Z6 (c := .bool ((ws.length : Int) == 3)) rfl rfl .plain (Zl rfl rfl) (Q7 ?_))))))))))))))));refine Qn (vs := [.pointer (some ⟨b, 0, none⟩), .bool ((ws.length : Int) == 3)]) en64 (.cons rfl (.cons rfl .nil)) .plain rfl h (fun a ha => wk64 (hb.ext hx) ha) (fun l e' g' w' hr hs => W0 hr (hfr.ext (hx.trans hs))) (fun y g' w' v hs hR hx' hk => ?_);exact Zb ⟨rfl, e0, e1, e4, g', hx.trans hs, hk⟩
  | false =>
   rw [h8] at h;refine Qk (g := g1) (n := 15) [0, 1, 2, 3, 4, 5, 6, 7, 8, 9, 10, 11, 12, 13, 14] [1] [0, 1, 2, 3, 4, 5, 6, 7, 8, 9, 10, 11, 12, 13, 14] rfl Wk (by kernel_rfl) fun wc hx hlt => (Z6 (c := .pointer (some ⟨b, 0, none⟩)) rfl rfl .plain (Zk e0) (Z6 (c := .pointer (some ⟨b, 0, none⟩)) rfl rfl .plain (Z8 rfl) (Z6 (c := .pointer (some ⟨b, 0, none⟩)) rfl rfl .plain (Tw Tr rfl) (Z6 (c := .pointer (some ⟨b, 0, none⟩)) rfl rfl .plain (Zk e0) (Z6 (c := .pointer (some ⟨b, 0, none⟩)) rfl rfl .plain (Z8 rfl) (Z6 (c := .pointer (some ⟨b, 3, none⟩)) rfl rfl .plain (Tw Ko rfl) (Z6 (c := .pointer (some ⟨b, 4, none⟩)) rfl rfl .plain (Tw Q9 rfl) (Wu (n := 1) (c := vC) rfl rfl .plain (Jo isAgg37 hb rfl _) rfl rfl (Z6 (c := Iz (x.mill.Chains.length : Int)) rfl rfl .plain (Dn underlying37 rfl hsl) (Z6 (c := .bool false) rfl rfl .plain (Gp rfl rfl (congrArg (fun z => some (Value.bool z)) h8)) (Z6 (c := .bool false) rfl rfl .plain (Zk rfl) (Tk rfl (.no2 rfl rfl rfl rfl) (Tk rfl (.no2 rfl rfl rfl rfl) (Tk rfl (.no2 rfl rfl rfl rfl) (Z6 (c := .bool false) rfl rfl .plain (Zl rfl rfl) (Q7 ?_))))))))))))))));refine Qn (vs := [.pointer (some ⟨b, 0, none⟩), .bool false]) en64 (.cons rfl (.cons rfl .nil)) .plain rfl h (fun a ha => wk64 (hb.ext hx) ha) (fun l e' g' w' hr hs => W0 hr (hfr.ext (hx.trans hs))) (fun y g' w' v hs hR hx' hk => ?_);obtain ⟨_, hf⟩ := hR
   cases hf
 clear h;rintro e ds w2 ⟨rfl, e0, e1, e4, g2, hs2, h⟩;have hfr := hfr.ext hs2;have hb := hb.ext hs2;have rW := rW.ext hs2;have hT := hT.ch hs2.ch;refine Z5 (Zo e0 rfl (Zo e1 rfl (Zo e4 rfl (Qn (vs := [.pointer (some ⟨b, 0, none⟩), vW, (Fx x).v]) en123 (.cons rfl (.cons rfl (.cons rfl .nil))) .plain rfl h (fun a ha => wk123 hT hb rW ha) (fun l e' g' w' hr hs => W0 hr (hfr.ext hs)) (fun k g3 w3 v hs3 hR hx3 h => ?_)))));obtain rfl := hR;have hs23 := hs2.trans hs3;have hfr := hfr.ext hs3;have hb := hb.ext hs3;have rW := rW.ext hs3;obtain ⟨u, hu, h⟩ := Z1 h;obtain ⟨cs, hcs, h⟩ := Z1 h;obtain rfl := sinj h;obtain ⟨hap, rfl⟩ := Mw (us := cr) (vs := [((u, k, ⟨.slice none 0 0, rfl⟩) : Hm)]) hcs h5 rfl;refine Zg (Iz k) rfl rfl (Z3 (Zs (x := .tmp 44) isAgg9 sizeOf9 (Gn rW hu) fun vc rc hld => ?_));obtain rfl := Ts.1 rc;refine Qk (g := g3) (n := 14) [0, 1, 2, 3, 4, 5, 6, 7, 8, 9, 10, 11] [1] [0, 1, 2, 3, 4, 5, 6, 7, 8, 9, 10, 11, 12, 13] rfl Wk (by kernel_rfl) fun wc hx hlt => (Z6 (c := .pointer (some ⟨b, 0, none⟩)) rfl rfl .plain (Zk e0) (Z6 (c := .pointer (some ⟨b, 0, none⟩)) rfl rfl .plain (Zk e0) (Z6 (c := .pointer (some ⟨b, 0, none⟩)) rfl rfl .plain (Z8 rfl) (Z6 (c := .pointer (some ⟨b, 3, none⟩)) rfl rfl .plain (Tw Ko rfl) (Z6 (c := .pointer (some ⟨b, 4, none⟩)) rfl rfl .plain (Tw Q9 rfl) (Wu (n := 1) (c := vC) rfl rfl .plain (Jo isAgg37 hb rfl _) rfl rfl (Z6 (c := vW) rfl rfl .plain (Zk e1) (Z6 (c := Gq vW 1 1) rfl rfl .plain (Zh (α := Str) underlying104 sizeOf9 rfl rW rfl hu) (Jc (c := u.v) rfl rfl .plain hld rfl (Z6 (c := Iz k) rfl rfl .plain (Zk rfl) (Z6 (c := .agg #[Iz k, .slice none 0 0]) rfl rfl .plain (T7 (vs := [(0, Iz k)]) [[Iz 0], [.slice none 0 0]] M8 rfl rfl (.cons rfl .nil) ⟨⟨_, rfl, rfl⟩, trivial⟩) (Z6 (c := .agg #[u.v, Iz k, .slice none 0 0]) rfl rfl .plain (T7 (vs := [(0, u.v), (1, .agg #[Iz k, .slice none 0 0])]) [[Str.v ⟨[]⟩], [Iz 0, .slice none 0 0]] N5 rfl rfl (.cons rfl (.cons rfl .nil)) ⟨⟨_, rfl, rfl⟩, ⟨⟨_, rfl, rfl⟩, trivial⟩⟩) (W7 rfl rfl .plain (Ga (g := g3) 7 (xs := ([(u, k, ⟨.slice none 0 0, rfl⟩)] : List Hm)) (vs := [.agg #[u.v, Iz k, .slice none 0 0]]) underlying37 sizeOf94 zeroValue94 rfl rfl (.cons rfl .nil) (RVs.cons ⟨[_, _, _], ⟨[_], _, rfl, rfl, [_], [_], rfl, rfl, rfl⟩, rfl⟩ RVs.nil) rfl rfl fun g4 w4 v4 _ _ r4 hx4 _ => ?_))))))))))))));have hlt := hlt.ext hx4;refine ⟨hlt.toW, ?_⟩;have hx4 := hx.trans hx4;refine W7 rfl rfl .plain (B2 Ff (g := g4) (i := 3) underlying37 Pv rfl rfl ((h4.ext hs23).ext hx4) rfl r4 hap fun g5 w5 v5 hs5 o5 => (⟨(hlt.stp hs5).toW, ?_⟩));refine Q7 (Zx (.pointer (some ⟨b, 0, none⟩)) (Z8 rfl) rfl (Zx (.pointer (some ⟨b, 3, none⟩)) (Tw Ko rfl) rfl (Zx (.pointer (some ⟨b, 4, none⟩)) (Tw Q9 rfl) rfl (Z4 rfl (Kc (c := v5) sizeOf37 rfl rfl o5.csz1' (by simp) ((hb.ext hx4).stp hs5 rfl) fun w6 hs6 hb6 _ => ?_)))));have hfr := ((hfr.ext hx4).stp hs5).stp hs6;refine Zb (Ho rfl rfl ⟨g5, hfr, _, rfl, rfl, MB.fin (MB.push hb6 ?_ ?_ (o5.stp hs6 rfl) h5 ?_) hfr⟩)
 ·exact ((((h2).ext hs23).ext hx4).stp hs5 rfl).stp hs6 rfl
 ·exact ((((h3).ext hs23).ext hx4).stp hs5).stp hs6
 ·exact fun i q c hq hc => (h6 i q c hq hc).ch (hs23.ch.trans (hx4.ch.trans (hs5.ch.trans hs6.ch)))
end

section
variable {gI : Gh} {wI : World} {b : Nat} {x : G4}
theorem Nv : T5 prog 96 = some ([Iz 0, Iz 0, .bool false], [(0, 1), (1, 1), (2, 1)]) := by kernel_rfl
theorem Mn : (prog.info? 96).map (fun i => (i.zero, i.size, i.bytes)) = some (some (.agg #[Iz 0, Iz 0, .bool false]), 3, 24) := by kernel_rfl
theorem partR : Gr (α := Hm) 2 (fun q => q.2.2) (fun q y => (q.1, q.2.1, y)) := Gr.comp Gr.snd Gr.snd rfl
theorem Mt {m : Nat → Nat} {w : World} (c : Gb) : GoT.rep m w c [Iz c.Number, Iz c.Row, .bool c.Turned] := ⟨[_], _, rfl, rfl, [_], [_], rfl, rfl, rfl⟩
theorem F4 {m : Nat → Nat} {w : World} (c : Gb) : RV m w c (.agg #[Iz c.Number, Iz c.Row, .bool c.Turned]) := ⟨_, Mt c, rfl⟩
theorem L_ldS {α : Type} [GoT α] {P : Program} {i b o T : Nat} {t : TypeId} {g : Gh} {w : World} {cs : Array Value} {a : α} {cl : List Value} {Kp : Prop} (ha : ∀ w, (isAgg t).run P w = .ok (GoT.agg α) w) (hs : ∀ w, (sizeOf t).run P w = .ok (GoT.k α) w) (hb : HBm i g w b (.cells cs T (0, 0))) (hr : GoT.rep g.m w a cl) (hc : ∀ j c, cl[j]? = some c → cs[o + j]? = some c)
  (k : ∀ v, RV g.m w a v → (∀ (x : Operand) (e : Env) (g' : Gh) (w' : World), (Ch g.m w g'.m w' ∧ ∀ k, k < w.heap.size → g.o k = i → w'.heap[k]? = w.heap[k]?) → ev e x = .pointer (some ⟨b, o, none⟩) → ∀ d ty pos af gd, (execOp (ev e) ⟨d, .load t x, ty, pos, af, gd⟩).run P w' = .ok (.value v) w') → Kp) : Kp := by
 refine k _ ⟨cl, hr, rfl⟩ fun x e g' w' hx he d ty pos af gd => ?_
 have hh := (hx.2 b hb.lt hb.1).trans hb.2.2
 have l := T3 (P := P) (w := w') (b := b) (off := o) ha hs (GoT.mono hx.1 hr) (fun j c hj => by simpa [World.cell?, hh] using hc j c hj)
 simp [execOp, he, Instr.loadAt, Instr.sureAddr, Result.andThen, l]
theorem Kq {α : Type} [GoT α] {m : Nat → Nat} {w : World} {xs : List α} {v : Value} (r : RV m w xs v) : GoT.rep m w xs [v] := by
 obtain ⟨cs, ⟨a, c, rfl, hc⟩, rfl⟩ := r;exact ⟨a, c, rfl, hc⟩
theorem MB.setl {g : Gh} {w : World} {vT vC v : Value} {hv1 : v.oneCell' = true} {cr : List Hm} {q : Hm} {c : Gi} {ks : List Gb} (hb : RB g w b 144 x.reader [vT, vC]) (h2 : OS 2 g w 108 x.mill.Ties vT) (h3 : RV g.m w x.mill.Ties vT) (h4 : OA 3 g w 94 (cr.set (x.mill.Chains.length - 1) (q.1, q.2.1, ⟨v, hv1⟩)) vC) (h5 : cr.length = x.mill.Chains.length) (h6 : ∀ (i : Nat) (q : Hm) (c : Gi), cr[i]? = some q → x.mill.Chains[i]? = some c → ChR g w q c)
  (hq : cr[x.mill.Chains.length - 1]? = some q) (hc : x.mill.Chains.getLast? = some c) (o : OS 4 g w 96 ks v) (r : RV g.m w ks v) : MB g w b ⟨x.reader, ⟨x.mill.Ties, x.mill.Chains.set (x.mill.Chains.length - 1) ⟨c.Name, ⟨c.Chain.Hooks, ks⟩⟩⟩⟩ := by
 rw [List.getLast?_eq_getElem?] at hc
 have hlt : x.mill.Chains.length - 1 < x.mill.Chains.length := (List.getElem?_eq_some_iff.1 hc).1
 obtain ⟨n1, n2, n3⟩ := h6 _ q c hq hc
 refine ⟨vT, vC, _, hb, h2, h3, h4, by simp [h5], fun i q' c' hq' hc' => ?_, fun q' c' hq' hc' => ?_⟩
 ·simp only at hc'
  rw [List.getElem?_set] at hq' hc'
  by_cases hi : x.mill.Chains.length - 1 = i
  ·rw [if_pos hi, if_pos (by omega)] at hq'
   rw [if_pos hi, if_pos hlt] at hc'
   injection hq' with hq'; injection hc' with hc'
   subst hq'; subst hc'
   exact ⟨n1, n2, r⟩
  ·rw [if_neg hi] at hq' hc'
   exact h6 i q' c' hq' hc'
 ·simp only at hc'
  rw [List.getLast?_eq_getElem?, List.length_set, List.getElem?_set] at hq' hc'
  rw [if_pos (by omega), if_pos (by omega)] at hq'
  rw [if_pos rfl, if_pos hlt] at hc'
  injection hq' with hq'; injection hc' with hc'
  subst hq'; subst hc'
  exact o
def f81s (x : G4) (c : Gi) (ws : List Str) (num : Int) : Option (PR G4) :=
 (idx ws 0).bind fun w0 => (idx ws 2).bind fun w2 => (f63 w2).bind fun rw =>
  bnd (f64 x.reader (bif rw.2 then ((w2.b.length : Int) == c.Chain.Hooks) else false)) fun _ =>
  (apnd 24 c.Chain.Cards [⟨num, rw.1, w0.b == [116, 117, 114, 110, 101, 100]⟩]).bind fun cs => (f107 ⟨c.Chain.Hooks, cs⟩).bind fun e =>
  bnd (f64 x.reader (e == (0 : Int))) fun _ => some (.ok ⟨x.reader, ⟨x.mill.Ties, x.mill.Chains.set (x.mill.Chains.length - 1) ⟨c.Name, ⟨c.Chain.Hooks, cs⟩⟩⟩⟩)
def f81 (x : G4) (ws : List Str) : Option (PR G4) :=
 match x.mill.Chains.getLast? with
 | none => bnd (f64 x.reader false) fun _ => none
 | some c => bnd (f64 x.reader ((ws.length : Int) == 3)) fun _ => (idx ws 0).bind fun _ => (idx ws 1).bind fun w1 =>
  bnd (bif !(w1.b == [63]) then f124 x.reader w1 else some (.ok (-1))) fun num => f81s x c ws num
theorem en81 : Enters prog 81 := enters_of func81 (by kernel_rfl) rfl
theorem wk81 (hT : J7 gI.m wI) (hm : MB gI wI b x) {ws : List Str} {vW : Value} (rW : RV gI.m wI ws vW) {r : PR G4} (h : f81 x ws = some r) : FnS (Bk gI wI) prog 81 #[.pointer (some ⟨b, 0, none⟩), vW] wI (okR r fun y g w v => v = .tuple #[] ∧ MB g w b y) (pnR 177 r) := by
 refine Dk func81 rfl (Nat.le_of_ble_eq_true rfl) fun hfr => ?_;show E _ 86 none _ _ _ _ _;have hm := hm.start;have hT : J7 (ghR gI).m wI := hT;have rW : RV (ghR gI).m wI ws vW := rW;generalize ghR gI = g0 at *;obtain ⟨vT, vC, hb⟩ : ∃ vT vC, RB g0 wI b 144 x.reader [vT, vC] := let ⟨vT, vC, _, h1, _⟩ := hm; ⟨vT, vC, h1⟩;refine Z5 (Zn (.pointer (some ⟨b, 0, none⟩)) rfl rfl (Z4 rfl (Qg (vs := [.pointer (some ⟨b, 0, none⟩)]) (R := fun v w' => v = Hw vC x.mill.Chains.length ∧ wI = w') en122 (.cons rfl .nil) (Calls.mono (wk122 hb hm) fun r w' ⟨h1, h2⟩ => ⟨_, h1, rfl, h2.symm⟩) fun v w' hv => ?_)));obtain ⟨rfl, rfl⟩ := hv;refine Zg (Hw vC x.mill.Chains.length) rfl rfl (Z3 (Z5 (Zn (.pointer (some ⟨b, 0, none⟩)) rfl rfl (Zx (.pointer (some ⟨b, 0, none⟩)) (Z8 rfl) rfl (Zx (.pointer (some ⟨b, 0, none⟩)) (Tw Tr rfl) rfl (Zn (Hw vC x.mill.Chains.length) rfl rfl ?_))))));unfold f81 at h
 cases hc : x.mill.Chains.getLast? with
 | none =>
  rw [hc] at h;rw [MB.nol hm hc];refine Zx (.bool false) (Ku (u1 := .pointer none) (u2 := .pointer none) (.inr rfl) rfl rfl ⟨_, rfl⟩ ⟨_, rfl⟩ fun w => S6 w) rfl (Zn (.bool false) rfl rfl (Zz rfl rfl (c' := false) rfl rfl rfl (Zz rfl rfl (c' := false) rfl rfl rfl (Zz rfl rfl (c' := false) rfl rfl rfl (Zx (.bool false) (Zl rfl rfl) rfl (Qn (vs := [.pointer (some ⟨b, 0, none⟩), .bool false]) en64 (.cons rfl (.cons rfl .nil)) .plain rfl h (fun a ha => wk64 hb ha) (fun l e' g' w' hr hs => W0 hr (hfr.ext hs)) (fun y g' w' v hs hR hx' hk => ?_)))))));obtain ⟨_, hf⟩ := hR
  cases hf
 | some c =>
  rw [hc] at h;obtain ⟨vT', vC', cr, q, bc, cp, cs, h1, hv, h4, h5, hq, hh, c0, c1, c2, r3, o3, hl, _, _, _⟩ := MB.lastc hm hc;obtain ⟨rfl, rfl⟩ := U8 hb h1;rw [hl];refine Zx (.bool true) (Ku (u1 := .pointer (some ⟨bc, (x.mill.Chains.length - 1) * 3, none⟩)) (u2 := .pointer none) (.inr rfl) rfl rfl ⟨_, rfl⟩ ⟨_, rfl⟩ fun w => S6 w) rfl (Zn (.bool true) rfl rfl (Zy (vW) (Zk rfl) rfl rfl rfl rfl (Zy (Iz (ws.length : Int)) (G3 underlying104 rfl rW) rfl rfl rfl rfl (Zy (.bool ((ws.length : Int) == 3)) (Gp rfl rfl rfl) rfl rfl rfl rfl (Zx (.bool ((ws.length : Int) == 3)) (Zl rfl rfl) rfl (Qn (vs := [.pointer (some ⟨b, 0, none⟩), .bool ((ws.length : Int) == 3)]) en64 (.cons rfl (.cons rfl .nil)) .plain rfl h (fun a ha => wk64 hb ha) (fun l e' g' w' hr hs => W0 hr (hfr.ext hs)) (fun y g1 w1 v hs1 hR hx1 h => ?_)))))));have hfr := hfr.ext hs1;have rW := rW.ext hs1;have hT := hT.ch hs1.ch;have hb := hb.ext hs1;have hm := hm.ext hs1;obtain ⟨w0, hw0, h⟩ := Z1 h;obtain ⟨u1, hu1, h⟩ := Z1 h;refine Z3 (Z5 (Zn (vW) rfl rfl (Zx (Gq vW 0 1) (Zh (α := Str) underlying104 sizeOf9 rfl rW rfl hw0) rfl (Z4 rfl (Z7 (a := w0) isAgg9 sizeOf9 rfl (Gn rW hw0) fun v rv => ?_)))));obtain rfl := Ts.1 rv;refine Zx (.bool (w0.b == [116, 117, 114, 110, 101, 100])) (W2 (a := w0) (b := ⟨[116, 117, 114, 110, 101, 100]⟩) rfl rfl rfl) rfl (Zx (.agg #[Iz (-1), Iz 0, .bool (w0.b == [116, 117, 114, 110, 101, 100])]) (T7 (vs := [(0, Iz (-1)), (2, .bool (w0.b == [116, 117, 114, 110, 101, 100]))]) [[Iz 0], [Iz 0], [.bool false]] Nv rfl rfl (.cons rfl (.cons rfl .nil)) ⟨⟨_, rfl, rfl⟩, ⟨⟨_, rfl, rfl⟩, trivial⟩⟩) rfl (Z4 rfl (Wg (g := g1) 5 (⟨0, 0, false⟩ : Gb) zeroValue96 (fun m w => F4 ⟨0, 0, false⟩) fun g2 w2 p5 hs2 b5 => (Z4 rfl (Tx (g := g2) (a' := (⟨-1, 0, w0.b == [116, 117, 114, 110, 101, 100]⟩ : Gb)) sizeOf96 rfl b5 rfl (F4 ⟨-1, 0, w0.b == [116, 117, 114, 110, 101, 100]⟩) fun g3 w3 hs3 b5 => ?_)))));have hfr := (hfr.ext hs2).stp hs3;have rW := (rW.ext hs2).stp hs3;have hT := hT.ch (hs2.ch.trans hs3.ch);have hb : RB g3 w3 b 144 x.reader [vT, vC] := (hb.ext hs2).stp hs3 rfl;have hm := (hm.ext hs2).stp hs3 rfl;obtain ⟨p5b, hp5⟩ := b5.ptr;refine Z3 (Y9 (fun e ds w' => ds = [] ∧ e 0 = .pointer (some ⟨b, 0, none⟩) ∧ e 1 = vW ∧ e 4 = .pointer (some ⟨bc, (x.mill.Chains.length - 1) * 3, none⟩) ∧ e 5 = p5 ∧ ∃ g' num, FrR gI wI g' w' ∧ Ch g3.m w3 g'.m w' ∧ RB g' w' b 144 x.reader [vT, vC] ∧ MB g' w' b x ∧ OB 5 g' w' 96 (⟨num, 0, w0.b == [116, 117, 114, 110, 101, 100]⟩ : Gb) p5 ∧ f81s x c ws num = some r) ?_ ?_)
  ·refine Z5 (Zn (vW) rfl rfl (Zx (Gq vW 1 1) (Zh (α := Str) underlying104 sizeOf9 rfl rW rfl hu1) rfl (Z4 rfl (Z7 (a := u1) isAgg9 sizeOf9 rfl (Gn rW hu1) fun v rv => ?_))))
   obtain rfl := Ts.1 rv;refine Zx (.bool (!(u1.b == [63]))) (W2 (a := u1) (b := ⟨[63]⟩) rfl rfl rfl) rfl (Z3 ?_)
   cases hq3 : (!(u1.b == [63])) with
   | true =>
    rw [hq3] at h;refine Gx rfl rfl (Zs (x := .tmp 34) isAgg9 sizeOf9 (Gn rW hu1) fun vc rc hld => ?_);obtain rfl := Ts.1 rc;refine Qk (g := g3) (n := 6) [0, 1, 2, 3, 4, 5] [1] [0, 1, 2, 3, 4, 5] rfl Wk (by kernel_rfl) fun wc hx hlt => (Z6 (c := .pointer (some ⟨b, 0, none⟩)) rfl rfl .plain (Zk rfl) (Z6 (c := .pointer (some ⟨b, 0, none⟩)) rfl rfl .plain (Z8 rfl) (Z6 (c := .pointer (some ⟨b, 0, none⟩)) rfl rfl .plain (Tw Tr rfl) (Z6 (c := vW) rfl rfl .plain (Zk rfl) (Z6 (c := Gq vW 1 1) rfl rfl .plain (Zh (α := Str) underlying104 sizeOf9 rfl rW rfl hu1) (Jc (c := u1.v) rfl rfl .plain hld rfl (Q7 (Qn (vs := [.pointer (some ⟨b, 0, none⟩), u1.v]) en124 (.cons rfl (.cons rfl .nil)) .plain rfl h (fun a ha => wk124 (hT.ch hx.ch) (hb.ext hx) ha) (fun l e' g' w' hr hs => W0 hr (hfr.ext (hx.trans hs))) (fun num g4 w4 v hs4 hR hx4 h => ?_)))))))));obtain rfl := hR;have hs4 := hx.trans hs4;refine Zx (Gc p5 0) (Zc Dd rfl b5.ptr) rfl (Z4 rfl (Ry (g := g4) K4 sizeOf3 rfl (b5.ext hs4) rfl (Zj.2 rfl) fun g5 w5 hs5 b5 => ?_));exact Zb ⟨rfl, rfl, rfl, rfl, rfl, g5, num, (hfr.ext hs4).stp hs5, hs4.ch.trans hs5.ch, (HBm.ext hb hs4).stp hs5 rfl, (hm.ext hs4).stp hs5 rfl, b5, h⟩
   | false =>
    rw [hq3] at h;refine Gy rfl rfl (Zu ?_);exact ⟨rfl, rfl, rfl, rfl, rfl, g3, -1, hfr, Ch.refl _ _, hb, hm, b5, h⟩
  clear h hb hm hfr b5;rintro e ds w4 ⟨rfl, e0, e1, e4, e5, g4, num, hfr, hch4, hb, hm, b5, h⟩;have rW := rW.ch hch4;have hT := hT.ch hch4;unfold f81s at h;obtain ⟨w0', hw0', h⟩ := Z1 h;obtain rfl := Option.some.inj (hw0.symm.trans hw0');obtain ⟨w2, hw2, h⟩ := Z1 h;obtain ⟨rw1, hrw, h⟩ := Z1 h;refine Z5 (Zo e1 rfl (Zx (Gq vW 2 1) (Zh (α := Str) underlying104 sizeOf9 rfl rW rfl hw2) rfl (Z4 rfl (Z7 (a := w2) isAgg9 sizeOf9 rfl (Gn rW hw2) fun v rv => ?_))));obtain rfl := Ts.1 rv;refine Z4 rfl (Zp (g := g4) (vs := [w2.v]) en63 (.cons rfl .nil) (wk63 hrw) fun g5 w5 v hs5 hv => ?_);obtain ⟨_, _, rfl, rfl, rfl⟩ := hv;refine Zn (.tuple #[Iz rw1.1, .bool rw1.2]) rfl rfl (Zx (Iz rw1.1) (Zi rfl rfl) rfl (Zx (.bool rw1.2) (Zi rfl rfl) rfl (Zg (Iz rw1.1) rfl rfl (Zg (.bool rw1.2) rfl rfl ?_))));have hfr := hfr.ext hs5;have rW := rW.ext hs5;have hT := hT.ch hs5.ch;have hm := hm.ext hs5;have hb := HBm.ext hb hs5;have b5 := b5.ext hs5;refine Z3 (Z5 (Zn (Iz rw1.1) rfl rfl (Zx (Gc p5 1) (Zc Vs e5 b5.ptr) rfl (Z4 rfl (Ry (g := g5) W4 sizeOf3 rfl b5 rfl (Zj.2 rfl) fun g6 w6 hs6 b5 => ?_)))));have hfr := hfr.stp hs6;have rW := rW.stp hs6;have hT := hT.ch hs6.ch;have hm := hm.stp hs6 rfl;have hb : RB g6 w6 b 144 x.reader [vT, vC] := HBm.stp hb hs6 rfl;refine Z3 ?_;obtain ⟨vT', vC', cr, q, bc', cp', cs, h1, hv', h4, h5, hq, hh, c0, c1, c2, r3, o3, hl, h2, h3, h6⟩ := MB.lastc hm hc;obtain ⟨rfl, rfl⟩ := U8 hb h1
  obtain rfl : bc = bc' := by rw [hv] at hv'; injection hv' with hv'; injection hv' with hv'; injection hv' with hv'
  clear hv' h1 hm;refine Y9 (fun e ds w' => ds = [] ∧ e 0 = .pointer (some ⟨b, 0, none⟩) ∧ e 4 = .pointer (some ⟨bc, (x.mill.Chains.length - 1) * 3, none⟩) ∧ e 5 = p5 ∧ ∃ g', Ext g6 w6 g' w' ∧ ((apnd 24 c.Chain.Cards [⟨num, rw1.1, w0.b == [116, 117, 114, 110, 101, 100]⟩]).bind fun cs => (f107 ⟨c.Chain.Hooks, cs⟩).bind fun e => bnd (f64 x.reader (e == (0 : Int))) fun _ => some (.ok ⟨x.reader, ⟨x.mill.Ties, x.mill.Chains.set (x.mill.Chains.length - 1) ⟨c.Name, ⟨c.Chain.Hooks, cs⟩⟩⟩⟩)) = some r) ?_ ?_
  ·refine Zs (x := .tmp 53) isAgg9 sizeOf9 (Gn rW hw2) fun vc rc hld => ?_
   obtain rfl := Ts.1 rc
   cases hr2 : rw1.2 with
   | true =>
    rw [hr2] at h;refine Qk (g := g6) (n := 16) [0, 1, 2, 3, 4, 5, 6, 7, 8, 9, 10, 11, 12, 13, 14, 15] [1, 3] [0, 1, 2, 3, 4, 5, 6, 7, 8, 9, 10, 11, 12, 13, 14, 15] rfl Wk (by kernel_rfl) fun wc hx hlt => (Z6 (c := .pointer (some ⟨b, 0, none⟩)) rfl rfl .plain (Zk e0) (Z6 (c := .pointer (some ⟨b, 0, none⟩)) rfl rfl .plain (Z8 rfl) (Z6 (c := .pointer (some ⟨b, 0, none⟩)) rfl rfl .plain (Tw Tr rfl) (Z6 (c := .bool true) rfl rfl .plain (Zk rfl) (Z6 (c := .bool true) rfl rfl .plain (Zk rfl) (Z6 (c := vW) rfl rfl (.yes2 rfl rfl rfl) (Zk e1) (Z6 (c := Gq vW 2 1) rfl rfl (.yes2 rfl rfl rfl) (Zh (α := Str) underlying104 sizeOf9 rfl rW rfl hw2) (Jc (c := w2.v) rfl rfl (.yes2 rfl rfl rfl) hld rfl (Z6 (c := Iz (w2.b.length : Int)) rfl rfl (.yes2 rfl rfl rfl) (H8 underlying9 rfl) (Z6 (c := .pointer (some ⟨bc, (x.mill.Chains.length - 1) * 3, none⟩)) rfl rfl (.yes2 rfl rfl rfl) (Zk e4) (Z6 (c := .pointer (some ⟨bc, (x.mill.Chains.length - 1) * 3, none⟩)) rfl rfl (.yes2 rfl rfl rfl) (Z8 rfl) (Z6 (c := .pointer (some ⟨bc, (x.mill.Chains.length - 1) * 3 + 1, none⟩)) rfl rfl (.yes2 rfl rfl rfl) (Tw (o := (x.mill.Chains.length - 1) * 3) He rfl) (Z6 (c := .pointer (some ⟨bc, (x.mill.Chains.length - 1) * 3 + 1, none⟩)) rfl rfl (.yes2 rfl rfl rfl) (Tw (o := (x.mill.Chains.length - 1) * 3 + 1) Jv rfl) (Wu (n := 3) (c := Iz c.Chain.Hooks) rfl rfl (.yes2 rfl rfl rfl) (Jo isAgg3 hh c1 _) rfl rfl (Z6 (c := .bool ((w2.b.length : Int) == c.Chain.Hooks)) rfl rfl (.yes2 rfl rfl rfl) (Gp rfl rfl rfl) (Z6 (c := .bool ((w2.b.length : Int) == c.Chain.Hooks)) rfl rfl .plain (Zl rfl rfl) ?_))))))))))))))));refine Q7 (Qn (vs := [.pointer (some ⟨b, 0, none⟩), .bool ((w2.b.length : Int) == c.Chain.Hooks)]) en64 (.cons rfl (.cons rfl .nil)) .plain rfl h (fun a ha => wk64 (HBm.ext hb hx) ha) (fun l e' g' w' hr hs => W0 hr (hfr.ext (hx.trans hs))) (fun y g' w' v hs hR hx' hk => ?_));exact Zb ⟨rfl, e0, e4, e5, g', hx.trans hs, hk⟩
   | false =>
    rw [hr2] at h;refine Qk (g := g6) (n := 16) [0, 1, 2, 3, 4, 5, 6, 7, 8, 9, 10, 11, 12, 13, 14, 15] [1, 3] [0, 1, 2, 3, 4, 5, 6, 7, 8, 9, 10, 11, 12, 13, 14, 15] rfl Wk (by kernel_rfl) fun wc hx hlt => (Z6 (c := .pointer (some ⟨b, 0, none⟩)) rfl rfl .plain (Zk e0) (Z6 (c := .pointer (some ⟨b, 0, none⟩)) rfl rfl .plain (Z8 rfl) (Z6 (c := .pointer (some ⟨b, 0, none⟩)) rfl rfl .plain (Tw Tr rfl) (Z6 (c := .bool false) rfl rfl .plain (Zk rfl) (Z6 (c := .bool false) rfl rfl .plain (Zk rfl) (Tk rfl (.no2 rfl rfl rfl rfl) (Tk rfl (.no2 rfl rfl rfl rfl) (Tk rfl (.no2 rfl rfl rfl rfl) (Tk rfl (.no2 rfl rfl rfl rfl) (Tk rfl (.no2 rfl rfl rfl rfl) (Tk rfl (.no2 rfl rfl rfl rfl) (Tk rfl (.no2 rfl rfl rfl rfl) (Tk rfl (.no2 rfl rfl rfl rfl) (Tk rfl (.no2 rfl rfl rfl rfl) (Tk rfl (.no2 rfl rfl rfl rfl) (Z6 (c := .bool false) rfl rfl .plain (Zl rfl rfl) ?_))))))))))))))));refine Q7 (Qn (vs := [.pointer (some ⟨b, 0, none⟩), .bool false]) en64 (.cons rfl (.cons rfl .nil)) .plain rfl h (fun a ha => wk64 (HBm.ext hb hx) ha) (fun l e' g' w' hr hs => W0 hr (hfr.ext (hx.trans hs))) (fun y g' w' v hs hR hx' hk => ?_));obtain ⟨_, hf⟩ := hR
    cases hf
  clear h;rintro e ds w7 ⟨rfl, e0, e4, e5, g7, hs7, h⟩;obtain ⟨ks, hks, h⟩ := Z1 h;obtain ⟨er, her, h⟩ := Z1 h;have hfr := hfr.ext hs7;have hb : RB g7 w7 b 144 x.reader [vT, vC] := HBm.ext hb hs7;have b5 := b5.ext hs7;have h4 := h4.ext hs7;have hh := hh.ext hs7;have r3 := r3.ext hs7;have o3 := o3.ext hs7;have h2 := h2.ext hs7;have h3 := h3.ext hs7;have h6 : ∀ (i : Nat) (q : Hm) (c : Gi), cr[i]? = some q → x.mill.Chains[i]? = some c → ChR g7 w7 q c := fun i q c a b => (h6 i q c a b).ch hs7.ch
  have hp2 : (.pointer (some ⟨bc, (x.mill.Chains.length - 1) * 3 + 2, none⟩) : Value) = Gc (Gq vC ((x.mill.Chains.length - 1 : Nat) : Int) (GoT.k Hm)) 2 := by
   rw [hv]; simp [Gq, Gc, show GoT.k Hm = 3 from rfl]
  refine Zf (H4 (x := .tmp 5) isAgg96 sizeOf96 b5 fun v6 r6 hl6 => (Qk (g := g7) (n := 9) [0, 1, 2, 3, 4, 5, 6] [3, 5] [0, 1, 2, 3, 4, 5, 6, 7, 8] rfl Wk (by kernel_rfl) fun wc hx hlt => (Z6 (c := .pointer (some ⟨bc, (x.mill.Chains.length - 1) * 3, none⟩)) rfl rfl .plain (Zk e4) (Z6 (c := .pointer (some ⟨bc, (x.mill.Chains.length - 1) * 3, none⟩)) rfl rfl .plain (Zk e4) (Z6 (c := .pointer (some ⟨bc, (x.mill.Chains.length - 1) * 3, none⟩)) rfl rfl .plain (Z8 rfl) (Z6 (c := .pointer (some ⟨bc, (x.mill.Chains.length - 1) * 3 + 1, none⟩)) rfl rfl .plain (Tw (o := (x.mill.Chains.length - 1) * 3) He rfl) (Z6 (c := .pointer (some ⟨bc, (x.mill.Chains.length - 1) * 3 + 2, none⟩)) rfl rfl .plain (Tw (o := (x.mill.Chains.length - 1) * 3 + 1) Hg rfl) (Wu (n := 3) (c := q.2.2.v) rfl rfl .plain (Jo isAgg90 hh c2 _) rfl rfl (Wu (n := 5) (c := v6) rfl rfl .plain hl6 e5 rfl (W7 rfl rfl .plain (Ga (g := g7) 7 (xs := ([⟨num, rw1.1, w0.b == [116, 117, 114, 110, 101, 100]⟩] : List Gb)) (vs := [v6]) underlying90 sizeOf96 zeroValue96 rfl rfl (.cons rfl .nil) (RVs.cons (r6.ext hx) RVs.nil) rfl rfl fun g8 w8 v8 _ _ r8 hx8 _ => ?_)))))))))));have hlt := hlt.ext hx8;refine ⟨hlt.toW, ?_⟩;have hx8 := hx.trans hx8;refine W7 rfl rfl .plain (Qd (g := g8) (i := 4) underlying90 Mn rfl rfl (o3.ext hx8) (r3.ext hx8) rfl r8 hks fun g9 w9 v9 hs9 o9 r9 _ => (⟨(hlt.stp hs9).toW, ?_⟩));refine Q7 (Zx (.pointer (some ⟨bc, (x.mill.Chains.length - 1) * 3, none⟩)) (Z8 rfl) rfl (Zx (.pointer (some ⟨bc, (x.mill.Chains.length - 1) * 3 + 1, none⟩)) (Tw (o := (x.mill.Chains.length - 1) * 3) He rfl) rfl (Zx (.pointer (some ⟨bc, (x.mill.Chains.length - 1) * 3 + 2, none⟩)) (Tw (o := (x.mill.Chains.length - 1) * 3 + 1) Hg rfl) rfl ?_)))
  have hv91 : v9.oneCell' = true := by obtain ⟨_, _, rfl, _⟩ := Qc r9; rfl
  have hidx : idx cr ((x.mill.Chains.length - 1 : Nat) : Int) = some q := by simp [idx, hq]
  refine Z4 rfl (Pj (g := g9) (n := 3) (y0 := (⟨v9, hv91⟩ : Fv)) partR sizeOf90 hp2 ((h4.ext hx8).stp hs9 rfl) hidx rfl (Xo.2 rfl) fun g10 w10 hs10 o10 => ?_);rw [Int.toNat_natCast] at o10;have hfr := ((hfr.ext hx8).stp hs9).stp hs10;have hb : RB g10 w10 b 144 x.reader [vT, vC] := ((HBm.ext hb hx8).stp hs9 rfl).stp hs10 rfl;have h2 := ((h2.ext hx8).stp hs9 rfl).stp hs10 rfl;have h3 := ((h3.ext hx8).stp hs9).stp hs10;have o9 := o9.stp hs10 rfl;have r9 := r9.stp hs10;have h6 : ∀ (i : Nat) (q : Hm) (c : Gi), cr[i]? = some q → x.mill.Chains[i]? = some c → ChR g10 w10 q c := fun i q c a b => (h6 i q c a b).ch (hx8.ch.trans (hs9.ch.trans hs10.ch));have hlt1 : x.mill.Chains.length - 1 < cr.length := (List.getElem?_eq_some_iff.1 hq).1;obtain ⟨bc2, cp2, hv2, cs2, hh2, d0, d1, d2⟩ := Lz o10 (i := x.mill.Chains.length - 1) (q := (q.1, q.2.1, ⟨v9, hv91⟩)) (by rw [List.getElem?_set_self hlt1])
  obtain rfl : bc = bc2 := by rw [hv] at hv2; injection hv2 with hv2; injection hv2 with hv2; injection hv2 with hv2
  have hcn : q.2.1 = c.Chain.Hooks := (h6 _ q c hq (by rw [List.getLast?_eq_getElem?] at hc; exact hc)).2.1;rw [hcn] at d1;refine Z3 (L_ldS (α := ChainBelt) (o := (x.mill.Chains.length - 1) * 3 + 1) (a := ⟨c.Chain.Hooks, ks⟩) (cl := [Iz c.Chain.Hooks, v9]) isAgg92 sizeOf92 hh2 ⟨[_], [_], rfl, rfl, Kq r9⟩ (fun j u hj => ?_) fun vB rB hlB => ?_)
  ·match j, hj with
   | 0, hj => injection hj with hj; subst hj; exact d1
   | 1, hj => injection hj with hj; subst hj; exact d2
   | j + 2, hj => simp at hj
  refine Qk (g := g10) (n := 9) [0, 1, 2, 3, 4, 5, 6, 8] [1, 3] [0, 1, 2, 3, 4, 5, 6, 7, 8] rfl Wk (by kernel_rfl) fun wc hx hlt => (Z6 (c := .pointer (some ⟨b, 0, none⟩)) rfl rfl .plain (Zk e0) (Z6 (c := .pointer (some ⟨b, 0, none⟩)) rfl rfl .plain (Z8 rfl) (Z6 (c := .pointer (some ⟨b, 0, none⟩)) rfl rfl .plain (Tw Tr rfl) (Z6 (c := .pointer (some ⟨bc, (x.mill.Chains.length - 1) * 3, none⟩)) rfl rfl .plain (Zk e4) (Z6 (c := .pointer (some ⟨bc, (x.mill.Chains.length - 1) * 3, none⟩)) rfl rfl .plain (Z8 rfl) (Z6 (c := .pointer (some ⟨bc, (x.mill.Chains.length - 1) * 3 + 1, none⟩)) rfl rfl .plain (Tw (o := (x.mill.Chains.length - 1) * 3) He rfl) (Wu (n := 3) (c := vB) rfl rfl .plain (hlB _) rfl rfl (W7 rfl rfl .plain (Zp (g := g10) (vs := [vB]) en107 (.cons rfl .nil) (wk107 (rB.ext hx) her) fun g11 w11 v hs11 hv => ?_)))))))));subst hv;refine ⟨(hlt.ext hs11).toW, ?_⟩;refine Z6 (c := .bool (er == (0 : Int))) rfl rfl .plain (Gp rfl rfl rfl) (Q7 ?_);have hx11 := hx.trans hs11;refine Qn (vs := [.pointer (some ⟨b, 0, none⟩), .bool (er == (0 : Int))]) en64 (.cons rfl (.cons rfl .nil)) .plain rfl h (fun a ha => wk64 (HBm.ext hb hx11) ha) (fun l e' g' w' hr hs => W0 hr (hfr.ext (hx11.trans hs))) (fun y g' w' v hs hR hx' hk => ?_);obtain rfl := sinj hk;have hz := hx11.trans hs;exact Zb (Ho rfl rfl ⟨g', hfr.ext hz, _, rfl, rfl, MB.fin (MB.setl (HBm.ext hb hz) (h2.ext hz) (h3.ext hz) (o10.ext hz) h5 (fun i q c a b => (h6 i q c a b).ch hz.ch) hq hc (o9.ext hz) (r9.ext hz)) (hfr.ext hz)⟩)
end

section
variable {gI : Gh} {wI : World} {b : Nat} {x : G4}
theorem A5 : T5 prog 106 = some ([Iz 0, .slice none 0 0], [(0, 1), (1, 1)]) := by kernel_rfl
theorem Aj : T5 prog 108 = some ([Str.v ⟨[]⟩, Iz 0, .slice none 0 0], [(0, 1), (1, 2)]) := by kernel_rfl
theorem Po : (prog.info? 108).map (fun i => (i.zero, i.size, i.bytes)) = some (some (.agg #[Str.v ⟨[]⟩, Iz 0, .slice none 0 0]), 3, 48) := by kernel_rfl
theorem S2 {m : Nat → Nat} {w : World} {h : Int} {ws : List Int} {v : Value} (r : RV m w ws v) : RV m w (⟨h, ws⟩ : TieHarness) (.agg #[Iz h, v]) := ⟨_, (⟨[_], [_], rfl, rfl, Kq r⟩ : GoT.rep m w ((h, ws) : Int × List Int) _), rfl⟩
theorem RV_tie {m : Nat → Nat} {w : World} {u : Str} {h : Int} {ws : List Int} {v : Value} (r : RV m w ws v) : RV m w (⟨u, ⟨h, ws⟩⟩ : Gs) (.agg #[u.v, Iz h, v]) := ⟨_, (⟨[_], [_, _], rfl, rfl, [_], [_], rfl, rfl, Kq r⟩ : GoT.rep m w ((u, h, ws) : Str × Int × List Int) _), rfl⟩
theorem MB.tie {g : Gh} {w : World} {vT vC : Value} {cr : List Hm} {ts : List Gs} (hb : RB g w b 144 x.reader [vT, vC]) (h2 : OS 2 g w 108 ts vT) (h3 : RV g.m w ts vT) (h4 : OA 3 g w 94 cr vC) (h5 : cr.length = x.mill.Chains.length) (h6 : ∀ (i : Nat) (q : Hm) (c : Gi), cr[i]? = some q → x.mill.Chains[i]? = some c → ChR g w q c)
  (h7 : ∀ (q : Hm) (c : Gi), cr.getLast? = some q → x.mill.Chains.getLast? = some c → OS 4 g w 96 c.Chain.Cards q.2.2.v) : MB g w b ⟨x.reader, ⟨ts, x.mill.Chains⟩⟩ := ⟨vT, vC, cr, hb, h2, h3, h4, h5, h6, h7⟩
theorem M3 {α : Type} [GoT α] {P : Program} {i b o T : Nat} {t : TypeId} {g : Gh} {w : World} {cs : Array Value} {a : α} {cl : List Value} (ha : ∀ w, (isAgg t).run P w = .ok (GoT.agg α) w) (hs : ∀ w, (sizeOf t).run P w = .ok (GoT.k α) w) (hb : HBm i g w b (.cells cs T (0, 0))) (hr : GoT.rep g.m w a cl) (hc : ∀ j c, cl[j]? = some c → cs[o + j]? = some c) :
  ∀ (x : Operand) (e : Env) (g' : Gh) (w' : World), (Ch g.m w g'.m w' ∧ ∀ k, k < w.heap.size → g.o k = i → w'.heap[k]? = w.heap[k]?) → ev e x = .pointer (some ⟨b, o, none⟩) → ∀ d ty pos af gd, (execOp (ev e) ⟨d, .load t x, ty, pos, af, gd⟩).run P w' = .ok (.value (toV (GoT.agg α) cl)) w' := fun x e g' w' hx he d ty pos af gd => by
 have hh := (hx.2 b hb.lt hb.1).trans hb.2.2
 have l := T3 (P := P) (w := w') (b := b) (off := o) ha hs (GoT.mono hx.1 hr) (fun j c hj => by simpa [World.cell?, hh] using hc j c hj)
 simp [execOp, he, Instr.loadAt, Instr.sureAddr, Result.andThen, l]
def f79b (x : G4) : Option Str := bif decide ((x.mill.Ties.length : Int) > 0) then (idx x.mill.Ties (w64 ((x.mill.Ties.length : Int) - 1))).bind fun t => some t.Name else some ⟨[]⟩
def f79l (x : Tm) (rest : List Str) : Option (PR (List Int)) :=
 lp (σ := List Int × Int) (fun k z => bif decide (z.2 < (rest.length : Int)) then (idx rest z.2).bind fun s => bnd (f124 x s) fun n => (apnd 8 z.1 [n]).bind fun ws => k (ws, w64 (z.2 + 1)) else some (.ok z.1)) big ([], 0)
def f79c (x : G4) : Bool := match x.mill.Chains.getLast? with
 | none => decide ((x.mill.Ties.length : Int) < 8)
 | some _ => false
def f79 (x : G4) (ws : List Str) : Option (PR G4) :=
 (f79b x).bind fun before => bnd (f64 x.reader (f79c x)) fun _ => bnd (f123 x.reader ws before) fun hooks => (cut ws 3 ws.length).bind fun rest =>
  bnd (f79l x.reader rest) fun warps => (f105 ⟨hooks, warps⟩).bind fun er => bnd (f64 x.reader (er == (0 : Int))) fun _ =>
  (idx ws 1).bind fun u => (apnd 48 x.mill.Ties [⟨u, ⟨hooks, warps⟩⟩]).bind fun ts => some (.ok ⟨x.reader, ⟨ts, x.mill.Chains⟩⟩)
theorem en79 : Enters prog 79 := enters_of func79 (by kernel_rfl) rfl
theorem wk79 (hT : J7 gI.m wI) (hm : MB gI wI b x) {ws : List Str} {vW : Value} (rW : RV gI.m wI ws vW) {r : PR G4} (h : f79 x ws = some r) : FnS (Bk gI wI) prog 79 #[.pointer (some ⟨b, 0, none⟩), vW] wI (okR r fun y g w v => v = .tuple #[] ∧ MB g w b y) (pnR 177 r) := by
 obtain ⟨before, hbf, h⟩ := Z1 h;refine Dk func79 rfl (Nat.le_of_ble_eq_true rfl) fun hfr => ?_;show E _ 89 none _ _ _ _ _;have hm := hm.start;have hT : J7 (ghR gI).m wI := hT;have rW : RV (ghR gI).m wI ws vW := rW;generalize ghR gI = g0 at *;obtain ⟨vT, vC, cr, hb, h2, h3, h4, h5, h6, h7⟩ := hm;have hm : MB g0 wI b x := ⟨vT, vC, cr, hb, h2, h3, h4, h5, h6, h7⟩;refine Z5 (Zg (Str.v ⟨[]⟩) rfl rfl (Z3 (Kl (fun e ds w' => ds = [] ∧ e 0 = .pointer (some ⟨b, 0, none⟩) ∧ e 1 = vW ∧ e 4 = before.v ∧ wI = w') (fun Q' hQ' => ?_) ?_)))
 ·refine Z5 (Zn (.pointer (some ⟨b, 0, none⟩)) rfl rfl (Zx (.pointer (some ⟨b, 0, none⟩)) (Z8 rfl) rfl (Zx (.pointer (some ⟨b, 3, none⟩)) (Tw Ko rfl) rfl (Zx (.pointer (some ⟨b, 3, none⟩)) (Tw (o := 3) Qm rfl) rfl (Z4 rfl (Qu isAgg36 rfl (hb.cell.trans rfl) (Zx (Iz (x.mill.Ties.length : Int)) (G3 underlying36 rfl h3) rfl (Zg (Iz (x.mill.Ties.length : Int)) rfl rfl (Z3 (Z5 (Zn (Iz (x.mill.Ties.length : Int)) rfl rfl (Gd (.bool (decide ((x.mill.Ties.length : Int) > 0))) rfl rfl rfl rfl (Z3 ?_)))))))))))))
  unfold f79b at hbf;rcases Zt hbf with ⟨hp, hbf⟩ | ⟨hp, hbf⟩
  ·obtain ⟨t, ht, hbf⟩ := Z1 hbf
   obtain rfl := Option.some.inj hbf;refine Gx hp rfl (Za (Zn (.pointer (some ⟨b, 0, none⟩)) rfl rfl (Zx (.pointer (some ⟨b, 0, none⟩)) (Z8 rfl) rfl (Zx (.pointer (some ⟨b, 3, none⟩)) (Tw Ko rfl) rfl (Zx (.pointer (some ⟨b, 3, none⟩)) (Tw (o := 3) Qm rfl) rfl (Z4 rfl (Qu isAgg36 rfl (hb.cell.trans rfl) (Zn (Iz (x.mill.Ties.length : Int)) rfl rfl (Gd (Iz (w64 ((x.mill.Ties.length : Int) - 1))) rfl rfl rfl rfl (Zx (Gq vT (w64 ((x.mill.Ties.length : Int) - 1)) 3) (Zh (α := Gs) underlying36 sizeOf108 rfl h3 rfl ht) rfl (Zx (Gc (Gq vT (w64 ((x.mill.Ties.length : Int) - 1)) 3) 0) (Zc Hu rfl (PT.ptr (Gn h3 ht))) rfl (Z4 rfl (Z7 (a := t.Name) isAgg9 sizeOf9 rfl (Zm K0.1 (Gn h3 ht)) fun v rv => ?_)))))))))))));obtain rfl := Ts.1 rv;refine Zg (t.Name.v) rfl rfl ?_;exact Zb (hQ' _ _ _ ⟨rfl, rfl, rfl, rfl, rfl⟩)
  ·obtain rfl := Option.some.inj hbf
   refine Gy hp rfl (Zu ?_);exact hQ' _ _ _ ⟨rfl, rfl, rfl, rfl, rfl⟩
 rintro e ds w1 ⟨rfl, e0, e1, e4, rfl⟩;refine Y9 (fun e ds w' => ds = [] ∧ e 0 = .pointer (some ⟨b, 0, none⟩) ∧ e 1 = vW ∧ e 4 = before.v ∧ ∃ g', Ext g0 wI g' w' ∧ (bnd (f123 x.reader ws before) fun hooks => (cut ws 3 ws.length).bind fun rest => bnd (f79l x.reader rest) fun warps => (f105 ⟨hooks, warps⟩).bind fun er => bnd (f64 x.reader (er == (0 : Int))) fun _ => (idx ws 1).bind fun u => (apnd 48 x.mill.Ties [⟨u, ⟨hooks, warps⟩⟩]).bind fun ts => some (.ok ⟨x.reader, ⟨ts, x.mill.Chains⟩⟩)) = some r) ?_ ?_
 ·unfold f79c at h
  cases hc : x.mill.Chains.getLast? with
  | none =>
   rw [hc] at h;refine Qk (g := g0) (n := 15) [0, 1, 2, 3, 5, 6, 7, 8, 9, 10, 11, 12, 13, 14] [1] [0, 1, 2, 3, 4, 5, 6, 7, 8, 9, 10, 11, 12, 13, 14] rfl Wk (by kernel_rfl) fun wc hx hlt => (Z6 (c := .pointer (some ⟨b, 0, none⟩)) rfl rfl .plain (Zk e0) (Z6 (c := .pointer (some ⟨b, 0, none⟩)) rfl rfl .plain (Z8 rfl) (Z6 (c := .pointer (some ⟨b, 0, none⟩)) rfl rfl .plain (Tw Tr rfl) (Z6 (c := .pointer (some ⟨b, 0, none⟩)) rfl rfl .plain (Zk e0) ?_))));have hmx := hm.ext hx;have hbx : RB g0 wc b 144 x.reader [vT, vC] := hb.ext hx;refine W7 rfl rfl .plain (Qg (vs := [.pointer (some ⟨b, 0, none⟩)]) (R := fun v w' => v = Hw vC x.mill.Chains.length ∧ wc = w') en122 (.cons rfl .nil) (Calls.mono (wk122 hbx hmx) fun r w' ⟨h1, h2⟩ => ⟨_, h1, rfl, h2.symm⟩) fun v w' hv => ?_);obtain ⟨rfl, rfl⟩ := hv;refine ⟨hlt.toW, ?_⟩;rw [MB.nol hm hc];refine Z6 (c := .bool true) rfl rfl .plain (Ku (u1 := .pointer none) (u2 := .pointer none) (.inl rfl) rfl rfl ⟨_, rfl⟩ ⟨_, rfl⟩ fun w => Rn w) (Z6 (c := .bool true) rfl rfl .plain (Zk rfl) (Z6 (c := .pointer (some ⟨b, 0, none⟩)) rfl rfl (.yes2 rfl rfl rfl) (Zk e0) (Z6 (c := .pointer (some ⟨b, 0, none⟩)) rfl rfl (.yes2 rfl rfl rfl) (Z8 rfl) (Z6 (c := .pointer (some ⟨b, 3, none⟩)) rfl rfl (.yes2 rfl rfl rfl) (Tw Ko rfl) (Z6 (c := .pointer (some ⟨b, 3, none⟩)) rfl rfl (.yes2 rfl rfl rfl) (Tw (o := 3) Qm rfl) (Wu (n := 1) (c := vT) rfl rfl (.yes2 rfl rfl rfl) (Jo isAgg36 hb rfl _) rfl rfl (Z6 (c := Iz (x.mill.Ties.length : Int)) rfl rfl (.yes2 rfl rfl rfl) (G3 underlying36 rfl h3) (Z6 (c := .bool (decide ((x.mill.Ties.length : Int) < 8))) rfl rfl (.yes2 rfl rfl rfl) (Gp rfl rfl rfl) (Z6 (c := .bool (decide ((x.mill.Ties.length : Int) < 8))) rfl rfl .plain (Zl rfl rfl) (Q7 (Qn (vs := [.pointer (some ⟨b, 0, none⟩), .bool (decide ((x.mill.Ties.length : Int) < 8))]) en64 (.cons rfl (.cons rfl .nil)) .plain rfl h (fun a ha => wk64 hbx ha) (fun l e' g' w' hr hs => W0 hr (hfr.ext (hx.trans hs))) (fun y g' w' v hs hR hx' hk => ?_))))))))))));exact Zb ⟨rfl, e0, e1, e4, g', hx.trans hs, hk⟩
  | some c =>
   rw [hc] at h;obtain ⟨vT', vC', cr', q, bc, cp, cs, h1', hv, h4', h5', hq, hh, c0, c1, c2, r3, o3, hl, _, _, _⟩ := MB.lastc hm hc;obtain ⟨rfl, rfl⟩ := U8 hb h1';refine Qk (g := g0) (n := 15) [0, 1, 2, 3, 5, 6, 7, 8, 9, 10, 11, 12, 13, 14] [1] [0, 1, 2, 3, 4, 5, 6, 7, 8, 9, 10, 11, 12, 13, 14] rfl Wk (by kernel_rfl) fun wc hx hlt => (Z6 (c := .pointer (some ⟨b, 0, none⟩)) rfl rfl .plain (Zk e0) (Z6 (c := .pointer (some ⟨b, 0, none⟩)) rfl rfl .plain (Z8 rfl) (Z6 (c := .pointer (some ⟨b, 0, none⟩)) rfl rfl .plain (Tw Tr rfl) (Z6 (c := .pointer (some ⟨b, 0, none⟩)) rfl rfl .plain (Zk e0) ?_))));have hmx := hm.ext hx;have hbx : RB g0 wc b 144 x.reader [vT, vC] := hb.ext hx;refine W7 rfl rfl .plain (Qg (vs := [.pointer (some ⟨b, 0, none⟩)]) (R := fun v w' => v = Hw vC x.mill.Chains.length ∧ wc = w') en122 (.cons rfl .nil) (Calls.mono (wk122 hbx hmx) fun r w' ⟨h1, h2⟩ => ⟨_, h1, rfl, h2.symm⟩) fun v w' hv => ?_);obtain ⟨rfl, rfl⟩ := hv;refine ⟨hlt.toW, ?_⟩;rw [hl];refine Z6 (c := .bool false) rfl rfl .plain (Ku (u1 := .pointer (some ⟨bc, (x.mill.Chains.length - 1) * 3, none⟩)) (u2 := .pointer none) (.inl rfl) rfl rfl ⟨_, rfl⟩ ⟨_, rfl⟩ fun w => Rn w) (Z6 (c := .bool false) rfl rfl .plain (Zk rfl) (Tk rfl (.no2 rfl rfl rfl rfl) (Tk rfl (.no2 rfl rfl rfl rfl) (Tk rfl (.no2 rfl rfl rfl rfl) (Tk rfl (.no2 rfl rfl rfl rfl) (Tk rfl (.no2 rfl rfl rfl rfl) (Tk rfl (.no2 rfl rfl rfl rfl) (Tk rfl (.no2 rfl rfl rfl rfl) (Z6 (c := .bool false) rfl rfl .plain (Zl rfl rfl) (Q7 (Qn (vs := [.pointer (some ⟨b, 0, none⟩), .bool false]) en64 (.cons rfl (.cons rfl .nil)) .plain rfl h (fun a ha => wk64 hbx ha) (fun l e' g' w' hr hs => W0 hr (hfr.ext (hx.trans hs))) (fun y g' w' v hs hR hx' hk => ?_))))))))))));obtain ⟨_, hf⟩ := hR
   cases hf
 clear h;rintro e ds w2 ⟨rfl, e0, e1, e4, g2, hs2, h⟩;have hfr := hfr.ext hs2;have hm := hm.ext hs2;have hb : RB g2 w2 b 144 x.reader [vT, vC] := HBm.ext hb hs2;have rW := rW.ext hs2;have hT := hT.ch hs2.ch;refine Z5 (Zo e0 rfl (Zo e1 rfl (Zo e4 rfl (Qn (vs := [.pointer (some ⟨b, 0, none⟩), vW, before.v]) en123 (.cons rfl (.cons rfl (.cons rfl .nil))) .plain rfl h (fun a ha => wk123 hT hb rW ha) (fun l e' g' w' hr hs => W0 hr (hfr.ext hs)) (fun hooks g3 w3 v hs3 hR hx3 h => ?_)))));obtain rfl := hR;obtain ⟨rest, hrs, h⟩ := Z1 h;refine Zx (.agg #[Iz hooks, .slice none 0 0]) (T7 (vs := [(0, Iz hooks)]) [[Iz 0], [.slice none 0 0]] A5 rfl rfl (.cons rfl .nil) ⟨⟨_, rfl, rfl⟩, trivial⟩) rfl (Z4 rfl (Td (g := g3) 5 (⟨0, []⟩ : TieHarness) zeroValue106 (fun m w => S2 Tp) fun g4 w4 p4 hs4 b4 c4 => (Z4 rfl (Gv (g := g4) (a' := (⟨hooks, []⟩ : TieHarness)) (v := .agg #[Iz hooks, .slice none 0 0]) sizeOf106 rfl b4 rfl (S2 Tp) fun g5 w5 hs5 b5 c5 => ?_))));obtain ⟨bt, rfl, hd⟩ := Rj b5 c5;have hfr := ((hfr.ext hs3).stp hs4).stp hs5;have hm := ((hm.ext hs3).stp hs4 rfl).stp hs5 rfl;have hb : RB g5 w5 b 144 x.reader [vT, vC] := ((HBm.ext hb hs3).stp hs4 rfl).stp hs5 rfl;have rW := ((rW.ext hs3).stp hs4).stp hs5;have hT := hT.ch (hs3.ch.trans (hs4.ch.trans hs5.ch));have rR := U7 rW hrs;obtain ⟨rr, hlr, hrr⟩ := C2 h;clear h
 have hpn : ∀ l e', rr = .pn l e' → r = .pn l e' := fun l e' hr => by
  rcases hrr with ⟨_, _, h1, h2⟩ | ⟨y, h1, _⟩
  ·rw [hr] at h1; cases h1; exact h2
  ·rw [hr] at h1; cases h1
 generalize hV : Kf vW (3 : Int).toNat ((ws.length : Int)).toNat (GoT.k Str) = V at rR;refine Z3 (Y9 (fun e ds w' => ds = [] ∧ e 0 = .pointer (some ⟨b, 0, none⟩) ∧ e 1 = vW ∧ e 6 = .pointer (some ⟨bt, 0, none⟩) ∧ ∃ g' warps vs, FrR gI wI g' w' ∧ Ch g5.m w5 g'.m w' ∧ MB g' w' b x ∧ HBm 5 g' w' bt (.cells #[Iz hooks, vs] 106 (0, 0)) ∧ RV g'.m w' warps vs ∧ OS 6 g' w' 3 warps vs ∧ rr = .ok warps) ?_ ?_)
 ·refine Z5 (Zo e1 rfl (Zx V (hV ▸ X9 underlying104 sizeOf9 rfl rW rfl rfl hrs) rfl (Zx (Iz (rest.length : Int)) (G3 underlying104 rfl rR) rfl (Zn (Iz 0) rfl rfl (Z3 (Zr ?_))))))
  unfold f79l at hlr;refine Vt hlr (fun (z : List Int × Int) e ds w' => ds = [] ∧ e 0 = .pointer (some ⟨b, 0, none⟩) ∧ e 1 = vW ∧ e 6 = .pointer (some ⟨bt, 0, none⟩) ∧ e 49 = V ∧ e 50 = Iz (rest.length : Int) ∧ e 51 = Iz z.2 ∧ ∃ g' vs, FrR gI wI g' w' ∧ Ch g5.m w5 g'.m w' ∧ MB g' w' b x ∧ HBm 5 g' w' bt (.cells #[Iz hooks, vs] 106 (0, 0)) ∧ RV g'.m w' z.1 vs ∧ OS 6 g' w' 3 z.1 vs) ⟨rfl, e0, e1, rfl, rfl, rfl, rfl, g5, _, hfr, Ch.refl _ _, hm, hd, Tp, OS.nil⟩ (fun X rec hX => ?_);clear hlr hfr hm hd hb;rintro ⟨zs, zi⟩ e ds w6 ⟨rfl, e0, e1, e6, e49, e50, e51, g6, vs, hfr, hch, hm, hd, rZ, oZ⟩ hk;refine Z5 (Gd (.bool (decide (zi < (rest.length : Int)))) e51 e50 rfl rfl (Z3 (Zf ?_)));simp only at hk;rcases Zt hk with ⟨hc, hk⟩ | ⟨hc, hk⟩;rotate_left
  ·refine Gy hc rfl (Tu (G5 (G5 (Tf (Zd ?_)))))
   exact ⟨rfl, e0, e1, e6, g6, zs, vs, hfr, hch, hm, hd, rZ, oZ, (sinj hk).symm⟩
  refine Gx hc rfl (Zu (Zd ?_));obtain ⟨s, hs, hk⟩ := Z1 hk;have rR := rR.ch hch;have hT := hT.ch hch;obtain ⟨vT', vC', hb⟩ : ∃ vT vC, RB g6 w6 b 144 x.reader [vT, vC] := let ⟨vT, vC, _, h1, _⟩ := hm; ⟨vT, vC, h1⟩;refine Zf (Zr (Z5 (Zx (Gq V zi 1) (Zh (α := Str) underlying104 sizeOf9 e49 rR e51 hs) rfl (Z4 rfl (Z7 (a := s) isAgg9 sizeOf9 rfl (Gn rR hs) fun v rv => ?_)))));obtain rfl := Ts.1 rv;refine Zg (s.v) rfl rfl (Z3 (Sl (g := g6) (n := 9) (Pk (FrR gI wI) (pnR 177 r)) [0, 1, 2, 3, 4, 5] [1, 5] [6] [0, 1, 2, 3, 4, 5, 6, 7, 8] Wk (by kernel_rfl) (fun c e w h => ⟨rfl, h⟩) fun wc hx hlt => (Wz (c := .pointer (some ⟨bt, 1, none⟩)) rfl rfl rfl .plain (Tw Hb e6) (CX_ldO (n := 5) (c := vs) rfl rfl rfl .plain (Jo isAgg22 hd rfl _) rfl rfl (Wz (c := .pointer (some ⟨b, 0, none⟩)) rfl rfl rfl .plain (Zk e0) (Wz (c := .pointer (some ⟨b, 0, none⟩)) rfl rfl rfl .plain (Z8 rfl) (Wz (c := .pointer (some ⟨b, 0, none⟩)) rfl rfl rfl .plain (Tw Tr rfl) (Wz (c := s.v) rfl rfl rfl .plain (Zk rfl) (Rs (vs := [.pointer (some ⟨b, 0, none⟩), s.v]) rfl rfl .plain en124 (.cons rfl (.cons rfl .nil)) hk (fun a ha => wk124 (hT.ch hx.ch) (hb.ext hx) ha) (fun l e' g' w' hr hs => ⟨⟨l, e', hpn _ _ hr, rfl⟩, g', hfr.ext (hx.trans hs)⟩) (fun n g7 w7 v hs7 hR hx7 hk => ?_))))))))));obtain rfl := hR;obtain ⟨zs', hap, hk⟩ := Z1 hk;have hlt := hlt.ext hs7;refine ⟨hlt.toW, ?_⟩;have hs7 := hx.trans hs7;refine Oo rfl rfl rfl .plain (Ga (g := g7) 7 (xs := ([n] : List Int)) (vs := [Iz n]) underlying22 sizeOf3 zeroValue3 rfl rfl (.cons rfl .nil) (RVs.cons (Zj.2 rfl) RVs.nil) rfl rfl fun g8 w8 v8 _ _ r8 hx8 _ => ?_);have hlt := hlt.ext hx8;refine ⟨hlt.toW, ?_⟩;have hs8 := hs7.trans hx8;refine Oo rfl rfl rfl .plain (Qd (g := g8) (i := 6) underlying22 Lh rfl rfl (oZ.ext hs8) (rZ.ext hs8) rfl r8 hap fun g9 w9 v9 hs9 o9 r9 _ => (⟨(hlt.stp hs9).toW, ?_⟩));refine Fz (Zx (.pointer (some ⟨bt, 1, none⟩)) (Tw Hb e6) rfl (Z4 rfl (Kc (c := v9) sizeOf22 rfl rfl (by obtain ⟨_, _, rfl, _⟩ := Qc r9; rfl) (by simp) ((hd.ext hs8).stp hs9 rfl) fun w10 hs10 hd10 _ => (Zb (Th (Zd (Za (Gd (Iz (w64 (zi + 1))) e51 rfl rfl rfl (Zn (Iz (w64 (zi + 1))) rfl rfl (Z3 ?_))))))))));exact hX (zs', w64 (zi + 1)) _ _ _ ⟨rfl, e0, e1, e6, e49, e50, rfl, g9, v9, ((hfr.ext hs8).stp hs9).stp hs10, hch.trans (hs8.ch.trans (hs9.ch.trans hs10.ch)), ((hm.ext hs8).stp hs9 rfl).stp hs10 rfl, hd10, r9.stp hs10, o9.stp hs10 rfl⟩ hk
 clear hfr hm hd hlr hb;rintro e ds w6 ⟨rfl, e0, e1, e6, g6, warps, vs, hfr, hch, hm, hd, rZ, oZ, hrk⟩
 have h : ((f105 ⟨hooks, warps⟩).bind fun er => bnd (f64 x.reader (er == (0 : Int))) fun _ => (idx ws 1).bind fun u => (apnd 48 x.mill.Ties [⟨u, ⟨hooks, warps⟩⟩]).bind fun ts => some (.ok ⟨x.reader, ⟨ts, x.mill.Chains⟩⟩)) = some r := by
  rcases hrr with ⟨_, _, h1, h2⟩ | ⟨y, h1, h2⟩
  ·rw [hrk] at h1; cases h1
  ·rw [hrk] at h1; cases h1; exact h2
 clear hrr hpn;obtain ⟨er, her, h⟩ := Z1 h;have rW := rW.ch hch;have hT := hT.ch hch;obtain ⟨vT, vC, cr, hb, h2, h3, h4, h5, h6, h7⟩ := hm;refine Zf (Qk (g := g6) (n := 6) [0, 1, 2, 3, 5] [1, 5] [0, 1, 2, 3, 4, 5] rfl Wk (by kernel_rfl) fun wc hx hlt => (Z6 (c := .pointer (some ⟨b, 0, none⟩)) rfl rfl .plain (Zk e0) (Z6 (c := .pointer (some ⟨b, 0, none⟩)) rfl rfl .plain (Z8 rfl) (Z6 (c := .pointer (some ⟨b, 0, none⟩)) rfl rfl .plain (Tw Tr rfl) ?_))))
 refine Wu (n := 5) (c := .agg #[Iz hooks, vs]) rfl rfl .plain (M3 (α := TieHarness) (a := ⟨hooks, warps⟩) (o := 0) (cl := [Iz hooks, vs]) isAgg106 sizeOf106 hd ⟨[_], [_], rfl, rfl, Kq rZ⟩ (fun j u hj => by
  match j, hj with
  | 0, hj => exact hj
  | 1, hj => exact hj
  | j + 2, hj => simp at hj) _) e6 rfl ?_
 refine W7 rfl rfl .plain (Zp (g := g6) (vs := [.agg #[Iz hooks, vs]]) en105 (.cons rfl .nil) (wk105 ((S2 rZ).ext hx) her) fun g7 w7 v hs7 hv => ?_);subst hv;refine ⟨(hlt.ext hs7).toW, ?_⟩;refine Z6 (c := .bool (er == (0 : Int))) rfl rfl .plain (Gp rfl rfl rfl) (Q7 ?_);have hs7 := hx.trans hs7;refine Qn (vs := [.pointer (some ⟨b, 0, none⟩), .bool (er == (0 : Int))]) en64 (.cons rfl (.cons rfl .nil)) .plain rfl h (fun a ha => wk64 (HBm.ext hb hs7) ha) (fun l e' g' w' hr hs => W0 hr (hfr.ext (hs7.trans hs))) (fun y g8 w8 v hs8 hR hx' h => (Z3 ?_));obtain ⟨u, hu, h⟩ := Z1 h;obtain ⟨ts, hts, h⟩ := Z1 h;obtain rfl := sinj h;have hs8 := hs7.trans hs8;have hfr := hfr.ext hs8;have hb : RB g8 w8 b 144 x.reader [vT, vC] := HBm.ext hb hs8;have rW := rW.ext hs8;have hd := hd.ext hs8;have rZ := rZ.ext hs8;have h2 := h2.ext hs8;have h3 := h3.ext hs8;have h4 := h4.ext hs8;refine Zs (x := .tmp 80) isAgg9 sizeOf9 (Gn rW hu) fun vc rc hld => ?_;obtain rfl := Ts.1 rc;refine Qk (g := g8) (n := 13) [0, 1, 2, 3, 4, 5, 6, 7, 8, 9, 10] [1, 5] [0, 1, 2, 3, 4, 5, 6, 7, 8, 9, 10, 11, 12] rfl Wk (by kernel_rfl) fun wc hx hlt => (Z6 (c := .pointer (some ⟨b, 0, none⟩)) rfl rfl .plain (Zk e0) (Z6 (c := .pointer (some ⟨b, 0, none⟩)) rfl rfl .plain (Zk e0) (Z6 (c := .pointer (some ⟨b, 0, none⟩)) rfl rfl .plain (Z8 rfl) (Z6 (c := .pointer (some ⟨b, 3, none⟩)) rfl rfl .plain (Tw Ko rfl) (Z6 (c := .pointer (some ⟨b, 3, none⟩)) rfl rfl .plain (Tw (o := 3) Qm rfl) (Wu (n := 1) (c := vT) rfl rfl .plain (Jo isAgg36 hb rfl _) rfl rfl (Z6 (c := vW) rfl rfl .plain (Zk e1) (Z6 (c := Gq vW 1 1) rfl rfl .plain (Zh (α := Str) underlying104 sizeOf9 rfl rW rfl hu) (Jc (c := u.v) rfl rfl .plain hld rfl ?_)))))))))
 refine Wu (n := 5) (c := .agg #[Iz hooks, vs]) rfl rfl .plain (M3 (α := TieHarness) (a := ⟨hooks, warps⟩) (o := 0) (cl := [Iz hooks, vs]) isAgg106 sizeOf106 hd ⟨[_], [_], rfl, rfl, Kq rZ⟩ (fun j u hj => by
  match j, hj with
  | 0, hj => exact hj
  | 1, hj => exact hj
  | j + 2, hj => simp at hj) _) e6 rfl ?_
 refine Z6 (c := .agg #[u.v, Iz hooks, vs]) rfl rfl .plain (T7 (vs := [(0, u.v), (1, .agg #[Iz hooks, vs])]) [[Str.v ⟨[]⟩], [Iz 0, .slice none 0 0]] Aj rfl rfl (.cons rfl (.cons rfl .nil)) ⟨⟨_, rfl, rfl⟩, ⟨⟨_, rfl, rfl⟩, trivial⟩⟩) (W7 rfl rfl .plain (Ga (g := g8) 7 (xs := ([⟨u, ⟨hooks, warps⟩⟩] : List Gs)) (vs := [.agg #[u.v, Iz hooks, vs]]) underlying36 sizeOf108 zeroValue108 rfl rfl (.cons rfl .nil) (RVs.cons (RV_tie (rZ.ext hx)) RVs.nil) rfl rfl fun g9 w9 v9 _ _ r9 hx9 _ => ?_));have hlt := hlt.ext hx9;refine ⟨hlt.toW, ?_⟩;have hx9 := hx.trans hx9;refine W7 rfl rfl .plain (Qd (g := g9) (i := 2) underlying36 Po rfl rfl (h2.ext hx9) (h3.ext hx9) rfl r9 hts fun g10 w10 v10 hs10 o10 r10 _ => (⟨(hlt.stp hs10).toW, ?_⟩));refine Q7 (Zx (.pointer (some ⟨b, 0, none⟩)) (Z8 rfl) rfl (Zx (.pointer (some ⟨b, 3, none⟩)) (Tw Ko rfl) rfl (Zx (.pointer (some ⟨b, 3, none⟩)) (Tw (o := 3) Qm rfl) rfl (Z4 rfl (Kc (c := v10) sizeOf36 rfl rfl (by obtain ⟨_, _, rfl, _⟩ := Qc r10; rfl) (by simp) ((HBm.ext hb hx9).stp hs10 rfl) fun w11 hs11 hb11 _ => ?_)))));have hfr := ((hfr.ext hx9).stp hs10).stp hs11;refine Zb (Ho rfl rfl ⟨g10, hfr, _, rfl, rfl, MB.fin (MB.tie (cr := cr) hb11 (o10.stp hs11 rfl) (r10.stp hs11) (((h4.ext hx9).stp hs10 rfl).stp hs11 rfl) h5 ?_ ?_) hfr⟩)
 ·exact fun i q c a b => (h6 i q c a b).ch (hs8.ch.trans (hx9.ch.trans (hs10.ch.trans hs11.ch)))
 ·exact fun q c a b => ((((h7 q c a b).ext hs8).ext hx9).stp hs10 rfl).stp hs11 rfl
end

section
variable {gI : Gh} {wI : World} {b : Nat} {x : G4}
theorem Mg : T5 prog 144 = some ([Str.v ⟨[]⟩, Str.v ⟨[]⟩, Iz 0, .slice none 0 0, .slice none 0 0], [(0, 3), (3, 2)]) := by kernel_rfl
theorem Rz {m : Nat → Nat} {w : World} (s : Str) : GoT.rep m w (⟨⟨s, s, 0⟩, ⟨[], []⟩⟩ : G4) [s.v, s.v, Iz 0, .slice none 0 0, .slice none 0 0] := ⟨[_, _, _], _, rfl, Ds ⟨s, s, 0⟩, [_], _, rfl, Q0, Q0⟩
theorem OB.stpR {α : Type} [GoT α] {i : Nat} {g g' : Gh} {w w' : World} {t : TypeId} {x : α} {p : Value} (h : OB i g w t x p) (k : Bk g w g' w') (hi : rdr i = false) : OB i g' w' t x p := by
 obtain ⟨b, cs, hp, ho, hm, hh, hr⟩ := h;have hb := Gw hh
 have h0 : rdr (g.o b) = false := by rw [ho]; exact hi
 exact ⟨b, cs, hp, (k.o b hb h0).trans ho, (k.m b hb h0).trans hm, (k.block b hb h0).trans hh, GoT.mono k.ch hr⟩
theorem Ps {m : Nat → Nat} {w : World} {cr : List Hm} {v : Value} {cs : List Gi} (h : RV m w cr v) (hl : cr.length = cs.length) (h6 : ∀ (i : Nat) (q : Hm) (c : Gi), cr[i]? = some q → cs[i]? = some c → q.1 = c.Name ∧ q.2.1 = c.Chain.Hooks ∧ RV m w c.Chain.Cards q.2.2.v) : RV m w cs v := by
 obtain ⟨a, k, rfl, hk, hr⟩ := Qc h;refine Q4 hl (by omega) fun h0 => ?_;obtain ⟨b, off, rfl, hb, hm, hrow⟩ := hr (by omega);refine ⟨b, off, rfl, hb, by rw [← hl]; exact hm, fun i c hi => ?_⟩;have hlt := (List.getElem?_eq_some_iff.1 hi).1;obtain ⟨q, hq⟩ : ∃ q, cr[i]? = some q := ⟨_, List.getElem?_eq_getElem (by omega)⟩;obtain ⟨cl, hrep, hcell⟩ := hrow i q hq;obtain rfl := Cx hrep;obtain ⟨e1, e2, e3⟩ := h6 i q c hq hi;rw [e1, e2] at hcell;exact ⟨[c.Name.v, Iz c.Chain.Hooks, q.2.2.v], ⟨[_], [_, _], rfl, rfl, [_], [_], rfl, rfl, Kq e3⟩, hcell⟩
theorem Nk {P : Program} {op : Op} {e : Env} {w : World} {K : Value → World → Prop} {v : Value} (hrun : ∀ d ty pos af gd, (execOp (ev e) ⟨d, op, ty, pos, af, gd⟩).run P w = .ok (.value v) w) (h : K v w) : Doe P op e w K := fun d ty pos af gd => by
 unfold doE; rw [hrun]; exact h
def f77b (k : G4 → Option (PR Gg)) (x : G4) : Option (PR Gg) :=
 bnd (f62 x.reader) fun q => (f78 q.1).bind fun ws => (idx ws 0).bind fun w0 =>
  bif w0.b == [116, 105, 101] then bnd (f79 ⟨q.2, x.mill⟩ ws) k
  else bif w0.b == [99, 104, 97, 105, 110] then bnd (f80 ⟨q.2, x.mill⟩ ws) k
  else bif (bif w0.b == [99, 97, 114, 100] then true else w0.b == [116, 117, 114, 110, 101, 100]) then bnd (f81 ⟨q.2, x.mill⟩ ws) k
  else bif w0.b == [101, 110, 100] then bnd (f82 ⟨q.2, x.mill⟩ ws) fun _ => some (.ok x.mill)
  else bnd (f61 q.2 4) fun _ => none
def f77 (s : Str) : Option (PR Gg) := bnd (f62 ⟨s, s, 0⟩) fun q => bnd (f64 q.2 (q.1.b == [109, 105, 108, 108])) fun _ => lp f77b big (⟨q.2, ⟨[], []⟩⟩ : G4)
theorem en77 : Enters prog 77 := enters_of func77 (by kernel_rfl) rfl
theorem wk77 (hT : J7 gI.m wI) {s : Str} {p : Value} (hp : PT gI.m wI s p) {r : PR Gg} (h : f77 s = some r) : FnS (Ext gI wI) prog 77 #[p] wI (okR r fun y g w v => RV g.m w y v) (pnR 177 r) := by
 have key : FnS (Fr gI wI) prog 77 #[p] wI (okR r fun y g w v => RV g.m w y v) (pnR 177 r) := by
  refine Hd func77 rfl (Nat.le_of_ble_eq_true rfl) ?_;show E _ 55 none _ _ _ _ _;have hfr := Fr.start gI wI;refine Z5 (Z4 rfl (Wg (g := { m := gI.m, o := fun _ => 0 }) 5 (⟨[], []⟩ : Gg) zeroValue39 Jt fun g1 w1 p1 hs1 b1 => ?_));have hfr := hfr.ext hs1;have hp1 := hp.ch hs1.ch;refine Z3 (Z5 (Z4 rfl (Z7 isAgg9 sizeOf9 rfl hp1 fun v rv => ?_)));obtain rfl := Ts.1 rv;refine Z4 rfl (Z7 isAgg9 sizeOf9 rfl hp1 fun v rv => ?_);obtain rfl := Ts.1 rv;refine Zx (.agg #[s.v, s.v, Iz 0]) (T7 (vs := [(0, s.v), (1, s.v)]) [[Str.v ⟨[]⟩], [Str.v ⟨[]⟩], [Iz 0]] C6 rfl rfl (.cons rfl (.cons rfl .nil)) ⟨⟨_, rfl, rfl⟩, ⟨⟨_, rfl, rfl⟩, trivial⟩⟩) rfl (Zx (.agg #[s.v, s.v, Iz 0, .slice none 0 0, .slice none 0 0]) (T7 (vs := [(0, .agg #[s.v, s.v, Iz 0])]) [[Str.v ⟨[]⟩, Str.v ⟨[]⟩, Iz 0], [.slice none 0 0, .slice none 0 0]] Mg rfl rfl (.cons rfl .nil) ⟨⟨_, rfl, rfl⟩, trivial⟩) rfl (Z4 rfl (F5 (g := g1) 1 (a := (⟨⟨s, s, 0⟩, ⟨[], []⟩⟩ : G4)) (v := .agg #[s.v, s.v, Iz 0, .slice none 0 0, .slice none 0 0]) rfl ⟨_, Rz s, rfl⟩ fun g2 w2 p2 hs2 b2 c2 => ?_)));have hfr := hfr.stp hs2;have b1 := b1.stp hs2 rfl;obtain ⟨b, rfl, hb⟩ := Rj b2 c2;have hb : RB g2 w2 b 144 ⟨s, s, 0⟩ [.slice none 0 0, .slice none 0 0] := hb;refine Zg (.pointer (some ⟨b, 0, none⟩)) rfl rfl (Z3 (Zf ?_));unfold f77 at h;refine Sl (g := g2) (n := 8) (Pk (Fr gI wI) (pnR 177 r)) [0, 1, 2, 3, 4, 5, 7] [] [6] [0, 1, 2, 3, 4, 5, 6, 7] Wk (by kernel_rfl) (fun c e w h => ⟨rfl, h⟩) fun wc hx hlt => (Wz (c := .pointer (some ⟨b, 0, none⟩)) rfl rfl rfl .plain (Zk rfl) (Wz (c := .pointer (some ⟨b, 0, none⟩)) rfl rfl rfl .plain (Z8 rfl) (Wz (c := .pointer (some ⟨b, 0, none⟩)) rfl rfl rfl .plain (Tw Tr rfl) (Wz (c := .pointer (some ⟨b, 0, none⟩)) rfl rfl rfl .plain (Zk rfl) (Wz (c := .pointer (some ⟨b, 0, none⟩)) rfl rfl rfl .plain (Z8 rfl) (Wz (c := .pointer (some ⟨b, 0, none⟩)) rfl rfl rfl .plain (Tw Tr rfl) (Rs (vs := [.pointer (some ⟨b, 0, none⟩)]) rfl rfl .plain en62 (.cons rfl .nil) h (fun a ha => wk62 (hT.ch (hfr.ch.trans hx.ch)) (HBm.ext hb hx) ha) (fun l e' g' w' hr hs => ⟨⟨l, e', hr, rfl⟩, g', (hfr.ext hx).stp hs⟩) (fun q g3 w3 v hs3 hR hx3 h => ?_))))))));obtain ⟨rfl, hb⟩ := hR;have hfr := (hfr.ext hx).stp hs3;have b1 := (b1.ext hx).stp hs3 rfl;refine ⟨(hlt.stp hs3).toW, ?_⟩;refine Wz (c := .bool (q.1.b == [109, 105, 108, 108])) rfl rfl rfl .plain (W2 (a := q.1) (b := ⟨[109, 105, 108, 108]⟩) rfl rfl rfl) (Fz (Qn (vs := [.pointer (some ⟨b, 0, none⟩), .bool (q.1.b == [109, 105, 108, 108])]) en64 (.cons rfl (.cons rfl .nil)) .plain rfl h (fun a ha => wk64 hb ha) (fun l e' g' w' hr hs => W0 hr (hfr.ext hs)) (fun y g4 w4 v hs4 hR hx4 h => ?_)));have hfr := hfr.ext hs4;have b1 := b1.ext hs4;have hb : RB g4 w4 b 144 q.2 [.slice none 0 0, .slice none 0 0] := HBm.ext hb hs4;refine Z3 (Zr (Vt h (fun (x : G4) e ds w' => ds = [] ∧ e 1 = p1 ∧ e 2 = .pointer (some ⟨b, 0, none⟩) ∧ ∃ g', Fr gI wI g' w' ∧ MB g' w' b x ∧ OB 5 g' w' 39 (⟨[], []⟩ : Gg) p1) ⟨rfl, rfl, rfl, g4, hfr, ⟨_, _, [], hb, OS.nil, Tp, OA.nil, rfl, by simp, by simp⟩, b1⟩ (fun X rec hX => ?_)));clear hfr hb b1 h hx hlt hx3 hx4 hs4 hs3 hp1;rintro x e ds w5 ⟨rfl, e1, e2, g5, hfr, hm, b1⟩ hk;unfold f77b at hk;obtain ⟨tl, hb, hrd⟩ := hm.rd;refine Zr (Z5 (Zo e2 rfl (Zx (.pointer (some ⟨b, 0, none⟩)) (Z8 rfl) rfl (Zx (.pointer (some ⟨b, 0, none⟩)) (Tw Tr rfl) rfl (Qn (vs := [.pointer (some ⟨b, 0, none⟩)]) en62 (.cons rfl .nil) .plain rfl hk (fun a ha => wk62 (hT.ch hfr.ch) hb ha) (fun l e' g' w' hr hs => W0 hr (hfr.stp hs)) (fun q g6 w6 v hs6 hR hx6 hk => ?_))))));obtain ⟨rfl, hb⟩ := hR;have hm := hrd _ _ _ hs6 hb;have hfr := hfr.stp hs6;have b1 := b1.stp hs6 rfl;obtain ⟨ws, hws, hk⟩ := Z1 hk;obtain ⟨w0, hw0, hk⟩ := Z1 hk;refine Z4 rfl (Zp (g := g6) (vs := [q.1.v, Str.v ⟨[32]⟩]) en78 (.cons rfl (.cons rfl .nil)) (wk78 (hT.ch hfr.ch) hws) fun g7 w7 v hs7 rW => (Zg (v) rfl rfl ?_));have hm := hm.ext hs7;have hfr := hfr.ext hs7;have b1 := b1.ext hs7;have hb := HBm.ext hb hs7;have hT := hT.ch hfr.ch;refine Z3 (Z5 (Zn (v) rfl rfl (Zx (Gq v 0 1) (Zh (α := Str) underlying104 sizeOf9 rfl rW rfl hw0) rfl (Z4 rfl (Z7 (a := w0) isAgg9 sizeOf9 rfl (Gn rW hw0) fun v' rv => ?_)))))
  obtain rfl := Ts.1 rv;refine Z3 (Zr (Z5 (Zx (.bool (w0.b == [116, 105, 101])) (W2 (a := w0) (b := ⟨[116, 105, 101]⟩) rfl rfl rfl) rfl (Zg (.bool (w0.b == [116, 105, 101])) rfl rfl (Z3 ?_)))));rcases Zt hk with ⟨hc, hk⟩ | ⟨hc, hk⟩
  ·refine Gx hc rfl (Za (Zo e2 rfl (Zn (v) rfl rfl (Qn (vs := [.pointer (some ⟨b, 0, none⟩), v]) en79 (.cons rfl (.cons rfl .nil)) .plain rfl hk (fun a ha => wk79 hT hm rW ha) (fun l e' g' w' hr hs => W0 hr (hfr.stpZ hs.stpZ)) (fun y g8 w8 v hs8 hR hx8 hk => ?_)))))
   obtain ⟨rfl, hm⟩ := hR;exact Zb (Th (Th (Zd (hX y _ _ _ ⟨rfl, e1, e2, g8, hfr.stpZ hs8.stpZ, hm, b1.stpR hs8 rfl⟩ hk))))
  refine Gy hc rfl (Z5 (Zx (.bool (w0.b == [99, 104, 97, 105, 110])) (W2 (a := w0) (b := ⟨[99, 104, 97, 105, 110]⟩) rfl rfl rfl) rfl (Zg (.bool (w0.b == [99, 104, 97, 105, 110])) rfl rfl (Z3 ?_))));rcases Zt hk with ⟨hc, hk⟩ | ⟨hc, hk⟩
  ·refine Gx hc rfl (Za (Zo e2 rfl (Zn (v) rfl rfl (Qn (vs := [.pointer (some ⟨b, 0, none⟩), v]) en80 (.cons rfl (.cons rfl .nil)) .plain rfl hk (fun a ha => wk80 hT hm rW ha) (fun l e' g' w' hr hs => W0 hr (hfr.stpZ hs.stpZ)) (fun y g8 w8 v hs8 hR hx8 hk => ?_)))))
   obtain ⟨rfl, hm⟩ := hR;exact Zb (Th (Th (Zd (hX y _ _ _ ⟨rfl, e1, e2, g8, hfr.stpZ hs8.stpZ, hm, b1.stpR hs8 rfl⟩ hk))))
  refine Gy hc rfl (Y9 (fun e ds w' => ds = [] ∧ e 1 = p1 ∧ e 2 = .pointer (some ⟨b, 0, none⟩) ∧ e 3 = v ∧ e 25 = w0.v ∧ e 40 = .bool (bif w0.b == [99, 97, 114, 100] then true else w0.b == [116, 117, 114, 110, 101, 100]) ∧ w' = w7) (Z5 ?_) ?_)
  ·refine Zx (.bool (w0.b == [99, 97, 114, 100])) (W2 (a := w0) (b := ⟨[99, 97, 114, 100]⟩) rfl rfl rfl) rfl (Zg (.bool (w0.b == [99, 97, 114, 100])) rfl rfl (Z3 ?_))
   cases h9 : (w0.b == [99, 97, 114, 100]) with
   | true => exact Gx rfl rfl (Zu ⟨rfl, e1, e2, rfl, rfl, rfl, rfl⟩)
   | false =>
    refine Gy rfl rfl (Za (Zx (.bool (w0.b == [116, 117, 114, 110, 101, 100])) (W2 (a := w0) (b := ⟨[116, 117, 114, 110, 101, 100]⟩) rfl rfl rfl) rfl (Zg (.bool (w0.b == [116, 117, 114, 110, 101, 100])) rfl rfl ?_)));exact Zb ⟨rfl, e1, e2, rfl, rfl, rfl, rfl⟩
  rintro e ds w7' ⟨rfl, e1, e2, e3, e25, e40, rfl⟩;rcases Zt hk with ⟨hc, hk⟩ | ⟨hc, hk⟩
  ·refine Gx hc e40 (Za (Zo e2 rfl (Zo e3 rfl (Qn (vs := [.pointer (some ⟨b, 0, none⟩), v]) en81 (.cons rfl (.cons rfl .nil)) .plain rfl hk (fun a ha => wk81 hT hm rW ha) (fun l e' g' w' hr hs => W0 hr (hfr.stpZ hs.stpZ)) (fun y g8 w8 v hs8 hR hx8 hk => ?_)))))
   obtain ⟨rfl, hm⟩ := hR;exact Zb (Th (Th (Zd (hX y _ _ _ ⟨rfl, e1, e2, g8, hfr.stpZ hs8.stpZ, hm, b1.stpR hs8 rfl⟩ hk))))
  refine Gy hc e40 (Z5 (Zx (.bool (w0.b == [101, 110, 100])) (W2 (a := w0) (b := ⟨[101, 110, 100]⟩) e25 rfl rfl) rfl (Zg (.bool (w0.b == [101, 110, 100])) rfl rfl (Z3 ?_))));rcases Zt hk with ⟨hc, hk⟩ | ⟨hc, hk⟩;rotate_left
  ·refine Gy hc rfl (Za (Zo e2 rfl (Zx (.pointer (some ⟨b, 0, none⟩)) (Z8 rfl) rfl (Zx (.pointer (some ⟨b, 0, none⟩)) (Tw Tr rfl) rfl (Qn (vs := [.pointer (some ⟨b, 0, none⟩), Iz 4]) en61 (.cons rfl (.cons rfl .nil)) .plain rfl hk (fun a ha => wk61 hb ha) (fun l e' g' w' hr hs => W0 hr (hfr.ext hs)) (fun y g' w' v hs hR hx h => by cases hx))))))
  refine Gx hc rfl (Z5 (Zo e2 rfl (Zo e3 rfl (Qn (vs := [.pointer (some ⟨b, 0, none⟩), v]) en82 (.cons rfl (.cons rfl .nil)) .plain rfl hk (fun a ha => wk82 hT hm rW ha) (fun l e' g' w' hr hs => W0 hr (hfr.stp hs)) (fun y g8 w8 v hs8 hR hx8 hk => ?_)))));obtain ⟨rfl, hE⟩ := hR;obtain rfl := sinj hk;clear hs8;have hfr := hfr.ext hE;have b1 := b1.ext hE;obtain ⟨vT, vC, cr, hb, h2, h3, h4, h5, h6, h7⟩ := hm.ext hE;obtain ⟨g9, hs9, r9⟩ := (OA.toM h4).pub;have hfr := hfr.stp hs9;have b1 := b1.stp hs9 rfl;have hb : RB g9 w8 b 144 q.2 [vT, vC] := HBm.stp hb hs9 rfl;have rT : RV g9.m w8 x.mill.Ties vT := h3.stp hs9;have rC : RV g9.m w8 x.mill.Chains vC := Ps r9 h5 fun i q c a b => let ⟨n1, n2, n3⟩ := h6 i q c a b; ⟨n1, n2, n3.stp hs9⟩;refine Z3 (Z5 (Zo e2 rfl (Zx (.pointer (some ⟨b, 0, none⟩)) (Z8 rfl) rfl (Zx (.pointer (some ⟨b, 3, none⟩)) (Tw Ko rfl) rfl ?_))))
  refine Z4 rfl (Nk (v := .agg #[vT, vC]) (fun d ty pos af gd => M3 (α := Gg) (a := x.mill) (o := 3) (cl := [vT, vC]) isAgg39 sizeOf39 hb ⟨[_], [_], rfl, Kq rT, Kq rC⟩ (fun j u hj => by
   match j, hj with
   | 0, hj => exact hj
   | 1, hj => exact hj
   | j + 2, hj => simp at hj) _ _ g9 w8 ⟨Ch.refl _ _, fun _ _ _ => rfl⟩ rfl d ty pos af gd) ?_)
  refine Z4 rfl (Tx (g := g9) (a' := x.mill) sizeOf39 e1 b1 rfl ⟨[vT, vC], ⟨[_], [_], rfl, Kq rT, Kq rC⟩, rfl⟩ fun g10 w10 hs10 b1 => (Z3 (Z9 (G2 (G2 (Gf (G2 ?_)))))));exact Oy rfl rfl b1 isAgg39 sizeOf39 e1 fun v rv => ⟨g10, hfr.stp hs10, x.mill, rfl, rv⟩
 refine Calls.mono key ?_;rintro r w' (⟨v, rfl, g', hs, hr⟩ | ⟨c, rfl, hx, g', hs⟩)
 ·exact .inl ⟨v, rfl, _, hs.fin, hr⟩
 ·exact .inr ⟨c, rfl, hx, _, hs.fin⟩
def f26 (s : Str) : Option (Gg × Int × Int) := bif decide ((s.b.length : Int) > 30000) then some (⟨[], []⟩, 0, 5) else (f77 s).bind fun a => some (f76 a)
theorem en26 : Enters prog 26 := enters_of func26 (by kernel_rfl) rfl
theorem wk26 (hTI : J7 gI.m wI) {s : Str} {r : Gg × Int × Int} (h : f26 s = some r) : Fn prog 26 #[s.v] gI wI (fun m w v => ∃ y0 y1 y2, v = .tuple #[y0, y1, y2] ∧ RV m w r.1 y0 ∧ y1 = Iz r.2.1 ∧ y2 = Iz r.2.2) := by
 refine fnE func26 rfl rfl fun g0 hm hfr => ?_;show E _ 14 none _ _ _ _ _;have hT : J7 g0.m wI := hm ▸ hTI;unfold f26 at h;refine Z5 (Z4 rfl (T1 (g := g0) (a := s) rfl (Ts.2 rfl) fun g1 w1 p hs1 hp => (Z4 rfl (Wg (g := g1) 5 (⟨[], []⟩ : Gg) zeroValue39 Jt fun g2 w2 p2 hs2 b2 => (Zg (Iz 0) rfl rfl (Zg (Iz 0) rfl rfl ?_))))));have hp := hp.ext hs2;have hfr := (hfr.ext hs1).ext hs2;refine Z3 (Zf (Z5 (Z4 rfl (Z7 isAgg9 sizeOf9 rfl hp fun v rv => ?_))));obtain rfl := Ts.1 rv;refine Zx (Iz (s.b.length : Int)) (H8 underlying9 rfl) rfl (Gd (.bool (decide ((s.b.length : Int) > 30000))) rfl rfl rfl rfl (Z3 ?_));rcases Zt h with ⟨hc, h⟩ | ⟨hc, h⟩
 ·obtain rfl := sinj h
  refine Gx hc rfl (Z5 (Z4 rfl (T8 isAgg39 sizeOf39 rfl b2 fun v rv => (Z4 rfl (Tx (g := g2) (a' := (⟨[], []⟩ : Gg)) sizeOf39 rfl b2 rfl rv fun g3 w3 hs3 b2 => (Zg (Iz 0) rfl rfl (Zg (Iz 5) rfl rfl (Z3 (Z9 (Gf ?_))))))))));exact Fj rfl rfl b2 isAgg39 sizeOf39 rfl rfl rfl fun v rv => ⟨g3, hfr.stp hs3, v, _, _, rfl, rv, rfl, rfl⟩
 obtain ⟨a, ha, h⟩ := Z1 h;obtain rfl := sinj h;refine Gy hc rfl (Zu (Zd (Z5 (Zx (.func (.func 77) #[] #[p]) (Wt (by simp; rfl)) rfl (Z4 rfl (Zp (g := g2) (vs := [.func (.func 77) #[] #[p]]) en76 (.cons rfl .nil) (wk76 (gI := g2) (first := #[]) (caps := #[p]) en77 (a := a) fun g w hc => wk77 (hT.ch (hs1.ch.trans (hs2.ch.trans hc))) (hp.ch hc) ha) fun g3 w3 v hs3 hv => ?_))))));obtain ⟨y, rfl, ry⟩ := hv;refine Zx (y) (Zi rfl rfl) rfl (Zx (Iz (f76 a).2.1) (Zi rfl rfl) rfl (Zx (Iz (f76 a).2.2) (Zi rfl rfl) rfl (Z4 rfl (Tx (g := g3) (a' := (f76 a).1) sizeOf39 rfl (b2.ext hs3) rfl ry fun g4 w4 hs4 b2 => (Zg (Iz (f76 a).2.1) rfl rfl (Zg (Iz (f76 a).2.2) rfl rfl (Z3 (Z9 ?_))))))));exact Fj rfl rfl b2 isAgg39 sizeOf39 rfl rfl rfl fun v rv => ⟨g4, (hfr.ext hs3).stp hs4, v, _, _, rfl, rv, rfl, rfl⟩
end

end Go.Proofs.YtmebkoemfjlbcaaGreatDoor
