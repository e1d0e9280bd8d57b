/- Calls, ends of functions, literals, lengths, conversions: laws over the env-based logic. No program is named here. -/
import Derived.Test.YtmebkoemfjlbcaaGreatDoorApp
namespace Go.Proofs.YtmebkoemfjlbcaaGreatDoor
open Go.RowKit

def Fn (P : Program) (f : FuncId) (args : Array Value) (g : Gh) (w : World) (R : (Nat → Nat) → World → Value → Prop) : Prop :=
 Calls P f args w fun r w' => ∃ v, r = .returned v ∧ ∃ g', Ext g w g' w' ∧ R g'.m w' v
theorem Fn.mono {P : Program} {f : FuncId} {args : Array Value} {g : Gh} {w : World} {R R' : (Nat → Nat) → World → Value → Prop} (h : Fn P f args g w R) (hR : ∀ m w' v, R m w' v → R' m w' v) : Fn P f args g w R' :=
 Calls.mono h fun _ _ ⟨v, hv, g', hx, hr⟩ => ⟨v, hv, g', hx, hR _ _ _ hr⟩
def Out (g : Gh) (w : World) (R : (Nat → Nat) → World → Value → Prop) (v : Value) (w' : World) : Prop := ∃ g', Fr g w g' w' ∧ R g'.m w' v
theorem N8 {P : Program} {f : FuncId} {fn : Func} {c : Code} {args : Array Value} {g : Gh} {w : World} {R : (Nat → Nat) → World → Value → Prop} (hf : P.funcs[f]? = some fn) (hb : fn.body = some c) (hN : args.size ≤ fn.ntmps)
  (h : ∀ g0, g0.m = g.m → Fr g w g0 w → E P fn.ntmps none c (K3 P fn (Out g w R)) (W8 args) [] w) : Fn P f args g w R := by
 refine Calls.mono (Qp hf hb hN (h { m := g.m, o := fun _ => 0 } rfl (Fr.start g w))) ?_
 rintro r w' ⟨v, rfl, g', hfr, hr⟩
 exact ⟨v, rfl, _, hfr.fin, hr⟩

inductive Args (e : Env) : List Operand → List Value → Prop
 | nil : Args e [] []
 | cons {x : Operand} {v : Value} {xs : List Operand} {vs : List Value} (h : ev e x = v) (t : Args e xs vs) : Args e (x :: xs) (v :: vs)
theorem Args.map {e : Env} {xs : List Operand} {vs : List Value} (h : Args e xs vs) : xs.map (ev e) = vs := by
 induction h with
 | nil => rfl
 | cons h _ ih => rw [List.map_cons, h, ih]

section
variable {P : Program} {e : Env} {ds : List Deferred} {w : World} {g : Gh} {m : Nat → Nat} {K : Value → World → Prop} {x y z : Operand}

theorem Zp {f : FuncId} {xs : List Operand} {vs : List Value} {ats : Array TypeId} {R : (Nat → Nat) → World → Value → Prop} (hent : Enters P f) (ha : Args e xs vs) (hc : Fn P f vs.toArray g w R)
  (h : ∀ g' w' v, Ext g w g' w' → R g'.m w' v → K v w') : Doe P (.call { callee := .value (.func f), args := xs.toArray, argTypes := ats }) e w K := fun d ty pos af gd => by
 have he := hent vs.toArray w
 have hrun : (execOp (ev e) ⟨d, .call { callee := .value (.func f), args := xs.toArray, argTypes := ats }, ty, pos, af, gd⟩).run P w = .ok (.enter f vs.toArray) w := by
  simp only [execOp, resolve, ev, Deferred.ofValue, Sem.run_bind, Sem.run_pure, Result.andThen_ok, invoke, List.map_toArray, ha.map, Array.empty_append, Array.append_empty, he]
 unfold doE; rw [hrun]
 refine Calls.mono hc ?_
 rintro r w'' ⟨v, rfl, g', hx, hr⟩
 exact ⟨v, rfl, h g' w'' v hx hr⟩
theorem J0 {f : FuncId} {c : Operand} {first caps : Array Value} {xs : List Operand} {vs : List Value} {ats : Array TypeId} {R : (Nat → Nat) → World → Value → Prop}
  (hc0 : ev e c = .func (.func f) first caps) (hent : Enters P f) (ha : Args e xs vs) (hc : Fn P f (first ++ vs.toArray ++ caps) g w R)
  (h : ∀ g' w' v, Ext g w g' w' → R g'.m w' v → K v w') : Doe P (.call { callee := .value c, args := xs.toArray, argTypes := ats }) e w K := fun d ty pos af gd => by
 have he := hent (first ++ vs.toArray ++ caps) w
 have hrun : (execOp (ev e) ⟨d, .call { callee := .value c, args := xs.toArray, argTypes := ats }, ty, pos, af, gd⟩).run P w = .ok (.enter f (first ++ vs.toArray ++ caps)) w := by
  simp only [execOp, resolve, hc0, Deferred.ofValue, Sem.run_bind, Sem.run_pure, Result.andThen_ok, invoke, List.map_toArray, ha.map, he]
 unfold doE; rw [hrun]
 refine Calls.mono hc ?_
 rintro r w'' ⟨v, rfl, g', hx, hr⟩
 exact ⟨v, rfl, h g' w'' v hx hr⟩

/-! ### Ends -/
theorem end0 {fn : Func} {R : Value → World → Prop} (hres : fn.results = #[]) (hd : ds = []) (h : R (.tuple #[]) w) : K3 P fn R .ret e ds w :=
 ⟨hd, fun tmps _ => ⟨_, results_none hres tmps P w, h⟩⟩
theorem Ho {fn : Func} {R : Value → World → Prop} (hres : fn.results = #[]) (hd : ds = []) (h : R (.tuple #[]) w) : K3 P fn R .normal e ds w :=
 ⟨hd, fun tmps _ => ⟨_, results_none hres tmps P w, h⟩⟩
theorem G0 {fn : Func} {R : Value → World → Prop} {t : Tmp} {v : Value} (hres : fn.results = #[.tmp t]) (hd : ds = []) (hv : e t = v) (h : R v w) : K3 P fn R .ret e ds w :=
 ⟨hd, fun tmps ht => ⟨v, by rw [results_tmp hres, ht, hv], h⟩⟩
theorem J4 {fn : Func} {R : Value → World → Prop} {t u : Tmp} {v1 v2 : Value} (hres : fn.results = #[.tmp t, .tmp u]) (hd : ds = []) (h1 : e t = v1) (h2 : e u = v2) (h : R (.tuple #[v1, v2]) w) : K3 P fn R .ret e ds w :=
 ⟨hd, fun tmps ht => ⟨_, by rw [results_tmp2 hres, ht, ht, h1, h2], h⟩⟩
theorem Hc {fn : Func} {R : Value → World → Prop} {t u s : Tmp} {v1 v2 v3 : Value} (hres : fn.results = #[.tmp t, .tmp u, .tmp s]) (hd : ds = []) (h1 : e t = v1) (h2 : e u = v2) (h3 : e s = v3) (h : R (.tuple #[v1, v2, v3]) w) : K3 P fn R .ret e ds w :=
 ⟨hd, fun tmps ht => ⟨_, by simp [results, hres, ht, h1, h2, h3], h⟩⟩
/-! ### Lengths, min, max, bytes of strings, conversions -/
theorem G3 {α : Type} [GoT α] {t et : TypeId} {xs : List α} {v : Value} (ht : P.underlying t = some (.slice et)) (hx : ev e x = v) (hv : RV m w xs v) :
  Pur P (.call { callee := .builtin .len, args := #[x], argTypes := #[t] }) e (.int .i64 (xs.length : Int)) := fun _ _ _ _ _ _ => by
 obtain ⟨a, c, rfl, _⟩ := Qc hv
 simp [execOp, resolve, invoke, builtin, Builtin.len_, hx, run_underlying ht, goInt]
theorem H8 {t : TypeId} {s : Str} (ht : P.underlying t = some .string) (hx : ev e x = s.v) : Pur P (.call { callee := .builtin .len, args := #[x], argTypes := #[t] }) e (.int .i64 (s.b.length : Int)) := fun _ _ _ _ _ _ => by
 simp only [execOp, resolve, invoke, builtin, Builtin.len_, List.map_toArray, List.map_cons, List.map_nil, hx, Str.v, Sem.run_bind, Sem.run_pure, Result.andThen_ok, List.getElem?_toArray, List.getElem?_cons_zero, run_underlying ht, goInt]
 rfl
def Jy (m n : Int) : Int := if n < m then n else m
theorem Om {t : Array TypeId} {m n : Int} (hx : ev e x = .int .i64 m) (hy : ev e y = .int .i64 n) : Pur P (.call { callee := .builtin .min, args := #[x, y], argTypes := t }) e (.int .i64 (Jy m n)) := fun _ _ _ _ _ _ => by
 simp [execOp, resolve, invoke, builtin, Builtin.min_, Builtin.min2, hx, hy, Jy]
theorem A2 {t : TypeId} {s : Str} {i : Int} {k : IntKind} {c : UInt8} (ht : P.underlying t = some .string) (hx : ev e x = s.v) (hy : ev e y = .int k i) (hi : idx s.b i = some c) : Pur P (.index t x y) e (.int .u8 c.toNat) := fun _ _ _ _ _ _ => by
 obtain ⟨h0, hc⟩ := Wr hi
 have hg : (ByteArray.mk (Array.mk s.b))[i.toNat]? = some c := by
  have hl := (List.getElem?_eq_some_iff.1 hc).1
  rw [getElem?_pos _ _ (by show i.toNat < s.b.length; exact hl)]
  exact congrArg some (List.getElem?_eq_some_iff.1 hc).2
 simp only [execOp, hx, hy, Instr.index, asIntOf, Str.v, Sem.run_bind, Sem.run_pure, Result.andThen_ok, run_underlying ht, h0, if_true, hg]
theorem Wa {s t : TypeId} {c : UInt8} (hs : P.underlying s = some (.int .u8)) (ht : P.underlying t = some (.int .i64)) (hx : ev e x = .int .u8 c.toNat) : Pur P (.convert s t x) e (.int .i64 (c.toNat : Int)) := fun _ _ _ _ _ _ => by
 have hlt := c.toNat_lt
 have hwr : IntKind.i64.wrap (c.toNat : Int) = (c.toNat : Int) := IntWalk.i64_in _ (by omega)
 simp [execOp, hx, convert, run_underlying hs, run_underlying ht, Conv.intToInt, hwr]
def cop (op : BinOp) (a b : UInt8) : Option Value :=
 match op with
 | .eql => some (.bool (a == b))
 | .neq => some (.bool (a != b))
 | .lss => some (.bool (decide (a < b)))
 | .leq => some (.bool (decide (a ≤ b)))
 | .gtr => some (.bool (decide (b < a)))
 | .geq => some (.bool (decide (b ≤ a)))
 | .add => some (.int .u8 (a + b).toNat)
 | .sub => some (.int .u8 (a - b).toNat)
 | .rem => if b = 0 then none else some (.int .u8 (a % b).toNat)
 | .quo => if b = 0 then none else some (.int .u8 (a / b).toNat)
 | _ => none
theorem Ok (a b : UInt8) : ((a.toNat : Int) == (b.toNat : Int)) = (a == b) := by
 rw [Bool.eq_iff_iff]; simp only [beq_iff_eq]; rw [Int.natCast_inj, UInt8.toNat_inj]
theorem u8_lt (a b : UInt8) : decide ((a.toNat : Int) < (b.toNat : Int)) = decide (a < b) := by
 rw [decide_eq_decide, UInt8.lt_iff_toNat_lt]; omega
theorem u8_le (a b : UInt8) : decide ((a.toNat : Int) ≤ (b.toNat : Int)) = decide (a ≤ b) := by
 rw [decide_eq_decide, UInt8.le_iff_toNat_le]; omega
theorem Sm (n : Int) : IntKind.u8.wrap n = n % 256 := by
 unfold IntKind.wrap; simp [IntKind.bits, IntKind.signed]
theorem Mr {op : BinOp} {t : TypeId} {a b : UInt8} {v : Value} (h : cop op a b = some v) (w : World) : (binOp op t (.int .u8 a.toNat) (.int .u8 b.toNat)).run P w = .ok v w := by
 have ha := a.toNat_lt
 have hb := b.toNat_lt
 cases op <;> simp only [cop] at h <;> first | (cases h; done) | skip
 case add =>
  injection h with h; subst h
  simp only [binOp, Op.intArith, ne_eq, not_true_eq_false, if_false, Sem.run_pure, Sm, UInt8.toNat_add]
  congr 2
 case sub =>
  injection h with h; subst h
  simp only [binOp, Op.intArith, ne_eq, not_true_eq_false, if_false, Sem.run_pure, Sm, UInt8.toNat_sub]
  congr 2; omega
 case quo =>
  split at h
  ·cases h
  ·rename_i h0
   injection h with h; subst h
   have hb0 : b.toNat ≠ 0 := fun h => h0 (UInt8.toNat_inj.1 (by simpa using h))
   have hlt : a.toNat / b.toNat < 256 := Nat.lt_of_le_of_lt (Nat.div_le_self _ _) ha
   have hne : ¬ ((b.toNat : Int) = 0) := by omega
   have hd : (a.toNat : Int).tdiv (b.toNat : Int) = ((a.toNat / b.toNat : Nat) : Int) := by rw [Int.tdiv_eq_ediv_of_nonneg (by omega)]; simp
   simp only [binOp, Op.intDiv, ne_eq, not_true_eq_false, if_false, if_neg hne, Sem.run_pure, Sm, UInt8.toNat_div]
   rw [hd]
   generalize a.toNat / b.toNat = q at hlt
   congr 2; omega
 case rem =>
  split at h
  ·cases h
  ·rename_i h0
   injection h with h; subst h
   have hb0 : b.toNat ≠ 0 := fun h => h0 (UInt8.toNat_inj.1 (by simpa using h))
   have hne : ¬ ((b.toNat : Int) = 0) := by omega
   have hd : (a.toNat : Int).tmod (b.toNat : Int) = ((a.toNat % b.toNat : Nat) : Int) := by rw [Int.tmod_eq_emod_of_nonneg (by omega)]; simp
   simp only [binOp, Op.intDiv, ne_eq, not_true_eq_false, if_false, if_neg hne, Sem.run_pure, UInt8.toNat_mod, hd]
 case eql => injection h with h; subst h; simp [binOp, Op.intCmp, ← Ok]
 case neq => injection h with h; subst h; simp only [binOp, Op.intCmp, ne_eq, not_true_eq_false, if_false, Sem.run_pure, bne, Ok]
 all_goals (injection h with h; subst h; simp only [binOp, Op.intCmp, ne_eq, not_true_eq_false, if_false, Sem.run_pure, GT.gt, GE.ge, u8_lt, u8_le])
theorem F0 {op : BinOp} {t t2 : TypeId} {a b : UInt8} {v : Value} (hx : ev e x = .int .u8 a.toNat) (hy : ev e y = .int .u8 b.toNat) (hv : cop op a b = some v) : Pur P (.binOp op t x y t2) e v :=
 H6 hx hy (fun w => Wc w) (fun w => Mr hv w)
end
end Go.Proofs.YtmebkoemfjlbcaaGreatDoor
