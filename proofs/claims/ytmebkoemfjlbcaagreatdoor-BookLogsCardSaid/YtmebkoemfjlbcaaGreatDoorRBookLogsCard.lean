/- BookLogs: for every input the law returns true, and each argument reads behind the call as it read before. No condition. -/
import Derived.Test.YtmebkoemfjlbcaaGreatDoorBkL4
import Derived.Test.YtmebkoemfjlbcaaGreatDoorRow
import Derived.Test.YtmebkoemfjlbcaaGreatDoorCards
import Derived.Test.YtmebkoemfjlbcaaGreatDoorTie
import Derived.Lay
import Derived.Shelf.Vars
import Derived.SevenTiedAt
set_option maxRecDepth 100000
namespace Go.Proofs.YtmebkoemfjlbcaaGreatDoor
open Go.ChangeShapes Go.WideShapes Go.ChangeAt Go.RowKit

def ok3 (x : Int) : Prop := (-9223372036854775808 ≤ x ∧ x ≤ 9223372036854775807)
theorem op3 : J9 Tryz.prog 3 Int ok3 := by
 have h := Pp Tryz.underlying3 (show Tryz.prog.cellsOf 3 = 1 from by kernel_rfl)
 exact h
def ok63 (x : Z2) : Prop := ok3 x.Day ∧ ok3 x.Loom ∧ ok3 x.Chain ∧ ok3 x.Tie ∧ ok3 x.Picks
theorem op63 : J9 Tryz.prog 63 Z2 ok63 := by
 have h := Su (β := Int × Int × Int × Int × Int) (fun x : Z2 => (x.Day, x.Loom, x.Chain, x.Tie, x.Picks)) rfl rfl (fun _ _ _ _ h => h) (fun b => ⟨⟨b.1, b.2.1, b.2.2.1, b.2.2.2.1, b.2.2.2.2⟩, rfl⟩) Tryz.underlying63 (show Tryz.prog.cellsOf 63 = 5 from by kernel_rfl) (J1 (off := 0) (off' := 1) rfl rfl op3 (J1 (off := 1) (off' := 2) rfl rfl op3 (J1 (off := 2) (off' := 3) rfl rfl op3 (J1 (off := 3) (off' := 4) rfl rfl op3 (C9 (off := 4) rfl op3)))))
 exact h
def ok49 (x : List Z2) : Prop := x.length ≤ 9223372036854775807 ∧ ∀ y ∈ x, ok63 y
theorem op49 : J9 Tryz.prog 49 (List Z2) ok49 := by
 have h := Xm op63 Tryz.underlying49 (show Tryz.prog.cellsOf 49 = 1 from by kernel_rfl) (by decide)
 exact h
def ok5 (_ : UInt8) : Prop := True
theorem op5 : J9 Tryz.prog 5 UInt8 ok5 := by
 have h := P6 Tryz.underlying5 (show Tryz.prog.cellsOf 5 = 1 from by kernel_rfl)
 exact h
def ok50 (x : List UInt8) : Prop := x.length ≤ 9223372036854775807 ∧ ∀ y ∈ x, ok5 y
theorem op50 : J9 Tryz.prog 50 (List UInt8) ok50 := by
 have h := Xm op5 Tryz.underlying50 (show Tryz.prog.cellsOf 50 = 1 from by kernel_rfl) (by decide)
 exact h

theorem Cr : ownKnob Tryz.prog.godebug = none := by kernel_rfl
theorem Sx : laidOutB Tryz.prog = true := by kernel_rfl
theorem Bm : ∀ t ∈ Tryz.f6.params.toList, Tryz.prog.readableRec t = true ∧ t < Tryz.prog.types.size := by
 rw [Tryz.params6]
 intro t ht
 simp only [List.mem_cons, List.not_mem_nil, or_false] at ht
 rcases ht with rfl | rfl
 all_goals exact ⟨by kernel_rfl, of_decide_eq_true (by kernel_rfl)⟩
theorem Ad {P : Program} {f : FuncId} {vs : Array Value} {w : World} {x : Option Bool} (hx : x = some true) (h : ∀ r, x = some r → Fn P f vs ⟨fun b => Ys w b + 1, fun _ => 0⟩ w (fun m w' v => RV m w' r v)) : Says P f vs w := by
 refine Calls.mono (h true hx) ?_
 rintro e w' ⟨v, rfl, g', hx, hr⟩
 rw [Wl] at hr
 subst hr
 exact ⟨rfl, hx.below⟩
theorem ch1 (w : World) : Ch (Ys w) w (fun b => Ys w b + 1) w := ⟨Nat.le_refl _, fun _ _ => Nat.le_succ _, fun _ _ _ _ => rfl⟩
theorem tab_of {W : World} (h : laidMetH Tryz.prog Rows.bookLogsRow.laid W) : Uw 1 (fun b => Ys W b + 1) W := by
  rw [MakeChecks.laidMetH_plain _ _ _ (by kernel_rfl)] at h
  obtain ⟨ps, hr0, _, _⟩ := h
  obtain ⟨_, _, _, _, _, q0, _, _, _, _, hr1, _⟩ := hr0
  obtain ⟨_, _, _, _, _, q1, _, _, _, _, hrest, _⟩ := hr1
  obtain ⟨g, t, cs, fuel, p, q, hg, ht, hv, hd, _, _⟩ := hrest
  obtain rfl := Option.some.inj ((show Tryz.prog.globalNamed "internal/strconv.uint64pow10" = some 1 by kernel_rfl).symm.trans hg)
  obtain rfl := Option.some.inj ((show (Tryz.prog.globals[1]?).map (·.type) = some 290 by kernel_rfl).symm.trans ht)
  obtain ⟨xs, m, _, ex, hcl, hl, hel⟩ := DataW.trod_array Tryz.underlying290 hd
  have c5 : Tryz.prog.cellsOf 259 = 1 := by kernel_rfl
  have c20 : Tryz.prog.cellsOf 290 = 20 := by kernel_rfl
  have hlen : Lib.pow10Tab.length = 20 := by kernel_rfl
  have e3 : (xs.map (·.1)) = Lib.pow10Tab.map fun n => (DataW.lit (.int .u64 n) : DataW Unit) := (DataW.agg.inj (Prod.mk.inj ex).1).symm
  have cell : ∀ r, r < 20 → W.cell? ⟨1, r, none⟩ = some (.int .u64 (Lib.pow10Tab.getD r 0)) := fun r hr => by
    have hE := hel r hr
    rw [c5, Nat.mul_one, List.getElem?_eq_getElem (by omega)] at hE
    obtain ⟨z, e1, e2, _⟩ := DataW.trod_int Tryz.underlying259 hE
    have e4 : (xs.map (·.1))[r]? = (Lib.pow10Tab.map fun n => (DataW.lit (.int .u64 n) : DataW Unit))[r]? := by rw [e3]
    rw [List.getElem?_map, List.getElem?_map, List.getElem?_eq_getElem (by omega : r < xs.length), List.getElem?_eq_getElem (by omega : r < Lib.pow10Tab.length), e2] at e4
    have hz : z = Lib.pow10Tab.getD r 0 := by
      simp only [Option.map_some, Option.some.injEq, DataW.lit.injEq, Lit.int.injEq, true_and] at e4
      rw [e4, List.getD, List.getElem?_eq_getElem (by omega : r < Lib.pow10Tab.length)]; rfl
    rw [World.var?_cell hg hv r, ← hz]
    have h0 : ((cs.toList.drop r).take 1)[0]? = some (.int .u64 z) := by rw [e1]; rfl
    have : cs.toList[r]? = some (.int .u64 z) := by simpa using h0
    simpa using this
  have hb := Vv (cell 19 (by omega))
  refine ⟨hb.1, by show 21 ≤ Ys W 1 + 1; omega, cell, ?_⟩
  rw [World.var?_cell hg hv 20]
  rw [c20] at hcl
  exact Array.getElem?_eq_none_iff.2 (by simp at hcl; omega)
theorem Dw {H : Type} {enc : TypeId × Value → H} {P : Program} {W : World} {sp : Nat → Bool} {fuel : Nat} {t : TypeId} {cs : List Value} {nm : String} {d : DataW H} {p : List MemPlace} {ms : Array (String × TypeId)} (hu : P.underlying t = some (.interface ms)) (h : DataW.trod enc P W 0 sp false fuel t cs = some (.iface nm d, p)) : ∃ u v, cs = [.iface u v] := by
 cases fuel with
 | zero => cases h
 | succ n =>
  rcases cs with _ | ⟨c, _ | ⟨c2, r⟩⟩
  ·simp [DataW.trod, hu] at h
  ·cases c
   case iface u v => exact ⟨u, v, rfl⟩
   all_goals simp [DataW.trod, hu] at h
  ·cases c <;> simp [DataW.trod, hu] at h
theorem Ri {W : World} (h : laidMetH Tryz.prog Rows.bookLogsRow.laid W) : Sv 4 Lw (fun b => Ys W b + 1) W := by
  rw [MakeChecks.laidMetH_plain _ _ _ (by kernel_rfl)] at h
  obtain ⟨ps, hr0, _, _⟩ := h
  obtain ⟨_, _, _, _, _, q0, _, _, _, _, hr1, _⟩ := hr0
  obtain ⟨_, _, _, _, _, q1, _, _, _, _, hr2, _⟩ := hr1
  obtain ⟨_, _, _, _, _, q2, _, _, _, _, hr3, _⟩ := hr2
  obtain ⟨_, _, _, _, _, q3, _, _, _, _, hr4, _⟩ := hr3
  obtain ⟨_, _, _, _, _, q4, _, _, _, _, hrest, _⟩ := hr4
  obtain ⟨g, t, cs, fuel, p, q, hg, ht, hv, hd, _, _⟩ := hrest
  obtain rfl := Option.some.inj ((show Tryz.prog.globalNamed "strconv.ErrSyntax" = some 4 by kernel_rfl).symm.trans hg)
  obtain rfl := Option.some.inj ((show (Tryz.prog.globals[4]?).map (·.type) = some 174 by kernel_rfl).symm.trans ht)
  obtain ⟨u, v, hcs⟩ := Dw Tryz.underlying174 hd
  have hc := World.var?_cell hg hv 0
  rw [show cs[0]? = some (.iface u v) by rw [← Array.getElem?_toList, hcs]; rfl] at hc
  exact ⟨(Vv hc).1, by show 1 ≤ Ys W 4 + 1; omega, _, hc, .inr ⟨u, v, rfl⟩⟩
theorem R3 {W : World} (h : laidMetH Tryz.prog Rows.bookLogsRow.laid W) : Sv 5 Lw (fun b => Ys W b + 1) W := by
  rw [MakeChecks.laidMetH_plain _ _ _ (by kernel_rfl)] at h
  obtain ⟨ps, hr0, _, _⟩ := h
  obtain ⟨_, _, _, _, _, q0, _, _, _, _, hr1, _⟩ := hr0
  obtain ⟨_, _, _, _, _, q1, _, _, _, _, hr2, _⟩ := hr1
  obtain ⟨_, _, _, _, _, q2, _, _, _, _, hr3, _⟩ := hr2
  obtain ⟨_, _, _, _, _, q3, _, _, _, _, hrest, _⟩ := hr3
  obtain ⟨g, t, cs, fuel, p, q, hg, ht, hv, hd, _, _⟩ := hrest
  obtain rfl := Option.some.inj ((show Tryz.prog.globalNamed "strconv.ErrRange" = some 5 by kernel_rfl).symm.trans hg)
  obtain rfl := Option.some.inj ((show (Tryz.prog.globals[5]?).map (·.type) = some 174 by kernel_rfl).symm.trans ht)
  obtain ⟨u, v, hcs⟩ := Dw Tryz.underlying174 hd
  have hc := World.var?_cell hg hv 0
  rw [show cs[0]? = some (.iface u v) by rw [← Array.getElem?_toList, hcs]; rfl] at hc
  exact ⟨(Vv hc).1, by show 1 ≤ Ys W 5 + 1; omega, _, hc, .inr ⟨u, v, rfl⟩⟩
theorem max_of {W : World} (h : W.ShapedOpen Tryz.prog) : Sv 0 O0 (fun b => Ys W b + 1) W := by
 obtain ⟨m, hc⟩ := cell_of_shapedOpen_int (P := Tryz.prog) (g := 0) (t := 3) (zero := #[.int .i64 0]) (k := .i64) h (of_decide_eq_true (by kernel_rfl)) (by kernel_rfl) rfl (by kernel_rfl) (by kernel_rfl) Tryz.underlying3
 exact ⟨(Vv hc).1, by show 1 ≤ Ys W 0 + 1; omega, _, hc, m, rfl⟩
theorem Vz {H : Type} {enc : TypeId × Value → H} {a : Assume} {C : Checked} {os : Os} {f : FuncId} {fn : Func} {s : ChangeSpec} {conds : List PathCond} {apart fresh handsOn again : Bool} {X : World → Array Value → Prop}
  (hX : ∀ (w w' : World) (args : Array Value), w.heap = w'.heap → X w args → X w' args)
  (own : ownKnob C.prog.godebug = none) (started : os.Started) (noInit : C.prog.inits.idxOf? f = none) (hfn : C.prog.funcs[f]? = some fn)
  (witness : ∃ (w : World) (tape : Tape) (i : Input), w.os = os ∧ (w.forCall tape i).Shaped C.prog ∧ i.vars = [] ∧ Input.okWide C.prog (w.forCall tape i) .any w.heap.size f i ∧
   ((s.pre enc C.prog fn conds apart (w.forCall tape i).memory i.args ∧ X (w.forCall tape i).memory i.args) ∧ sizedMet enc C.prog fn (OpenSpec.ofChange s) apart (w.forCall tape i).memory i.args) ∧ a.holds C.prog (lone (Frame.enter C.prog f i.args .normal) [] (w.forCall tape i)))
  (contract : ∀ (W : World) (base : Nat) (args : Array Value) (ds gs : List (DataW H)) (before : List MemPlace),
   (∀ (j : Nat) t v, fn.params[j]? = some t → args[j]? = some v → Value.okWide C.prog W .any base t v) →
   DataW.Whole enc C.prog fn.params.toList s.vars apart W args.toList ds gs before → X W args → W.ShapedOpen C.prog →
   Calls C.prog f args W fun e W' => ∃ v, e = .returned v ∧ s.post enc C.prog fn apart fresh handsOn again W args v W') :
  ReturnsInHanded a C os f .any (fun w args => (s.pre enc C.prog fn conds apart w args ∧ X w args) ∧ sizedMet enc C.prog fn (OpenSpec.ofChange s) apart w args) (s.post enc C.prog fn apart fresh handsOn again) := by
 refine returnsInHanded_of_calls own started noInit witness ?_
 intro w tape i _ hsh _ hok hpre hholds
 obtain ⟨_, _, _, fn', hfn', _, _, _, _, hval⟩ := hok
 obtain rfl : fn' = fn := Option.some.inj (hfn'.symm.trans hfn)
 obtain ⟨⟨⟨ds, gs, before, hw, hc⟩, hx⟩, hz⟩ := hpre
 refine (contract (w.forCall tape i) w.heap.size i.args ds gs before hval (DataW.Whole.of_heap (w' := w.forCall tape i) (by rfl) hw) (hX _ _ _ (by rfl) hx) hsh).mono fun e W' ⟨v, he, hp⟩ => ?_
 subst he
 exact ChangeSpec.post_blind hp
theorem Dh (os : Os) (started : os.Started) (H : Type) (enc : TypeId × Value → H) :
  ReturnsInHanded {} Tryz.checked os 6 .any (fun w args => (Rows.bookLogsSpec.pre enc Tryz.prog Tryz.f6 [] false w args ∧ laidMetH Tryz.prog Rows.bookLogsRow.laid w) ∧ sizedMet enc Tryz.prog Tryz.f6 (OpenSpec.ofChange Rows.bookLogsSpec) false w args)
   (Rows.bookLogsSpec.post enc Tryz.prog Tryz.f6 false true false false) := by
 refine Vz (C := Tryz.checked) (X := fun w _ => laidMetH Tryz.prog Rows.bookLogsRow.laid w) (fun _ _ _ hh h => h.of_heap hh) Cr started (by kernel_rfl) Tryz.func6
  (ChangeSpec.witness_shaped (enc := enc) (C := Tryz.checked) (os := os) (X := fun w _ => laidMetH Tryz.prog Rows.bookLogsRow.laid w) false (World.laidAll Tryz.prog os Rows.bookLogsRow.laid) #[.slice none 0 0, .slice none 0 0] 12 (World.laidAll_os _ _ _)
   (World.shaped_of_ZipB (by kernel_rfl) (by kernel_rfl)) (by kernel_rfl) (by kernel_rfl) (by kernel_rfl)
   (by rw [MakeChecks.laidMetH_plain _ _ _ (by kernel_rfl)]; exact laidMet_laidAll _ (by kernel_rfl) (by kernel_rfl))) ?_
 intro W base args ds gs before hval0 hW hL hsh
 have hT : Fa 0 1 4 5 (fun b => Ys W b + 1) W := ⟨tab_of hL, max_of hsh, Ri hL, R3 hL⟩
 have hval : ∀ (j : Nat) t v, Tryz.f6.params[j]? = some t → args[j]? = some v → Value.okWide Tryz.prog W .any base t v := hval0
 have hW' := hW
 obtain ⟨p, q, hA0, hV, rfl, hfz, hnd⟩ := hW
 have hA : DataW.TrodAll enc Tryz.prog W 0 (fun _ => true) true Tryz.f6.params.toList args.toList ds p := hA0
 rw [Tryz.params6] at hA hval
 obtain ⟨v0, vs0, d0, ds0, p0, q0, hargs, rfl, rfl, h0, r0⟩ := trodAll_cons hA
 obtain ⟨v1, vs1, d1, ds1, p1, q1, rfl, rfl, rfl, h1, r1⟩ := trodAll_cons r0
 obtain ⟨rfl, rfl, rfl⟩ := trodAll_nil r1
 obtain rfl : args = #[v0, v1] := by cases args; simp_all
 obtain ⟨rfl, rfl⟩ := trodVars_none hV
 obtain ⟨a0, w0, k0⟩ := Mc op49 (hval 0 49 v0 rfl rfl) h0
 obtain ⟨a1, w1, k1⟩ := Mc op50 (hval 1 50 v1 rfl rfl) h1
 clear hA0 hval0 hA hval
 refine Calls.mono (Ad (P := Tryz.prog) (f := 6) (x := f6 a0 a1) (law6 a0 a1) fun r hr => (wk6 hT (w0.ch (ch1 W)) (w1.ch (ch1 W)) hr).mono fun m w' v hv => Wl.2 hv) ?_
 intro e W' ⟨he, hb⟩
 exact ⟨_, he, Ai (tb := 4) hW' Sx Bm rfl rfl Tryz.underlying4 ⟨rfl, rfl, rfl⟩ hb⟩

theorem Sp : Rows.bookLogsRow.holds Tryz.pinned (OpenSpec.ofChange Rows.bookLogsSpec) :=
 OpenClaim.holds_of_wide 6 Tryz.f6 rfl rfl rfl rfl rfl rfl rfl ⟨rfl, rfl, rfl, rfl, rfl⟩ rfl rfl rfl rfl rfl (by kernel_rfl) Tryz.func6 (by kernel_rfl)
  (of_decide_eq_true (by kernel_rfl)) (by unfold Func.isWrapper; first | (rw [if_pos (by decide +kernel)]; kernel_rfl) | (rw [if_neg (by decide +kernel)]; exact ⟨rfl, rfl⟩))
  (fun os started H enc _ => Dh os started H enc)
theorem bookLogsCard_holds : Rows.BookLogsCardSaid :=
  Claim7.holds_tied_plain_at .later [] [.data, .data, .data, .data, .sentinel, .sentinel, .pinned] true (true, "1d6ec6c9bcf0fab90c60634bc6f21c300c13e1c1026756e372abe70a447ebb0c") true Sp (fun _ h => by cases h) (by kernel_rfl) (fun _ h => by cases h) bookLogs_row_tie rfl ⟨rfl, rfl⟩ (by kernel_rfl) rfl
    (fun f fn hf hfn => by
      obtain rfl : f = 6 := Option.some.inj ((show Tryz.prog.funcNamed "griffe/griffelaw13.BookLogs" = some 6 by kernel_rfl).symm.trans hf) |>.symm
      obtain rfl : fn = Tryz.f6 := (Option.some.inj (Tryz.func6.symm.trans hfn)).symm
      exact ⟨by kernel_rfl, fun j t ht => by
        rw [Tryz.params6] at ht
        have hm : t ∈ [49, 50] := by simpa using Array.mem_of_getElem? ht
        have hall : ([49, 50].all fun u => !Tryz.prog.wantsStandIn u) = true := by kernel_rfl
        exact (show Tryz.prog.wantsStandIn t = false by simpa using List.all_eq_true.1 hall t hm)⟩)
    (by kernel_rfl)
#print axioms bookLogsCard_holds
end Go.Proofs.YtmebkoemfjlbcaaGreatDoor
