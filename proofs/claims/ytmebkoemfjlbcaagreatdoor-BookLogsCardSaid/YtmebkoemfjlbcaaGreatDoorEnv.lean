/- An env-based logic over the kit's walks: a frame is a function from slots to values; the rules for code, regions and loops. No program is named here. -/
import Derived.RangeFuncBound
import Derived.RangeFuncCalls
import Derived.RangeFuncLeaves
import Derived.Shelf.Abstract
import Derived.Shelf.RegionOpen
import Derived.WalkKit
import Derived.OwnWalkIn
import Derived.TacticsInMore
import Derived.LoopNIn
import Derived.LoopIn
import Derived.WalkSpells
import Derived.WalkLawsBesides
namespace Go.Proofs.YtmebkoemfjlbcaaGreatDoor
open Go.RowKit

abbrev Env := Nat → Value
abbrev Kx := Exit → Env → List Deferred → World → Prop

def upd (e : Env) (d : Nat) (v : Value) : Env := fun t => bif Nat.beq t d then v else e t
theorem Uf (e : Env) (d : Nat) (v : Value) : upd e d v d = v := by simp [upd]
theorem Yn (e : Env) {d t : Nat} (v : Value) (h : t ≠ d) : upd e d v t = e t := by
 have : Nat.beq t d = false := by
  cases hb : Nat.beq t d
  ·rfl
  ·exact absurd (Nat.eq_of_beq_eq_true hb) h
 simp [upd, this]

def ev (e : Env) : Operand → Value
 | .tmp t => e t
 | .const v => v
 | .global g => .pointer (some ⟨g, 0, none⟩)
 | .func f => .func (.func f) #[] #[]

def fz (ro : Option Nat) : Fence := { Fence.wide with round := ro }
theorem Aa (ro : Option Nat) : (fz ro).round = ro := rfl
theorem Jk (ro : Option Nat) : (fz ro).depth.isSome = true → 1 ≤ 0 := fun h => by cases h
theorem Y4 {ro : Option Nat} {n : Nat} {P : Program} {f : FuncId} {args : Array Value} {w : World} {R : Ending → World → Prop} (h : Calls P f args w R) : CallsIn (fz ro) n P f args w R :=
 callsIn_wide.2 h

structure Wf (N : Nat) (e : Env) (a : Act) : Prop where
 size : a.tmps.size = N
 get : ∀ t, a.tmps.getD t undef = e t

def B6 (a : Act) : Env := fun t => a.tmps.getD t undef
theorem Wf.eq {N : Nat} {e : Env} {a : Act} (h : Wf N e a) : B6 a = e := funext h.get
theorem Wf.eval {N : Nat} {e : Env} {a : Act} (h : Wf N e a) : a.eval = ev e := by
 funext x
 cases x with
 | tmp t => exact h.get t
 | _ => rfl
theorem Wf.put {N : Nat} {e : Env} {a : Act} (h : Wf N e a) {d : Nat} (hd : Nat.blt d N = true) (v : Value) : Wf N (upd e d v) (a.put (some d) v) := by
 have hd' : d < a.tmps.size := by rw [h.size]; exact Nat.le_of_ble_eq_true hd
 refine ⟨by simp [Act.put, h.size], fun t => ?_⟩
 by_cases ht : t = d
 ·subst ht
  rw [Uf]
  simp [Act.put, Array.getD, hd']
 ·rw [Yn _ _ ht, ← h.get t]
  simp only [Act.put, Array.getD_eq_getD_getElem?]
  rw [Array.getElem?_setIfInBounds_ne (fun e => ht e.symm)]
theorem Q6 (a : Act) (d : Option Nat) (v : Value) : (a.put d v).defers = a.defers := by cases d <;> rfl
def Te (e : Env) : Option Nat → Value → Env
 | some d, v => upd e d v
 | none, _ => e
def okO (N : Nat) : Option Nat → Bool
 | some d => Nat.blt d N
 | none => true
theorem Wf.putO {N : Nat} {e : Env} {a : Act} (h : Wf N e a) {d : Option Nat} (hd : okO N d = true) (v : Value) : Wf N (Te e d v) (a.put d v) := by
 cases d with
 | none => exact h
 | some d => exact h.put hd v

def Ux (N : Nat) (Q : Kx) : Exit → Act → World → Prop := fun x a w => a.tmps.size = N ∧ Q x (B6 a) a.defers w

def E (P : Program) (N : Nat) (ro : Option Nat) (c : Code) (Q : Kx) (e : Env) (ds : List Deferred) (w : World) : Prop :=
 ∀ a, Wf N e a → a.defers = ds → c.wpIn (fz ro) 0 P (Ux N Q) a w

def thn (K : Env → List Deferred → World → Prop) (Q : Kx) : Kx
 | .normal, e, ds, w => K e ds w
 | x, e, ds, w => Q x e ds w
def Dy (id : Nat) (Q : Kx) : Kx
 | .exit i, e, ds, w => if i = id then Q .normal e ds w else Q (.exit i) e ds w
 | x, e, ds, w => Q x e ds w

section
variable {P : Program} {N : Nat} {ro : Option Nat} {Q : Kx} {e : Env} {ds : List Deferred} {w : World}

theorem By {K : Env → List Deferred → World → Prop} : Ux N (thn K Q) = Exit.then (fun a w => a.tmps.size = N ∧ K (B6 a) a.defers w) (Ux N Q) := by
 funext x a w
 cases x <;> rfl
theorem Fc {id : Nat} : Ux N (Dy id Q) = Exit.inBlock id (Ux N Q) := by
 funext x a w
 cases x <;> simp only [Ux, Dy, Exit.inBlock]
 split <;> rfl

theorem E_mono {c : Code} {Q' : Kx} (h : E P N ro c Q e ds w) (hq : ∀ x e ds w, Q x e ds w → Q' x e ds w) : E P N ro c Q' e ds w :=
 fun a ha hd => wpIn_mono (h a ha hd) fun _ _ _ ⟨h1, h2⟩ => ⟨h1, hq _ _ _ _ h2⟩
theorem Zu (h : Q .normal e ds w) : E P N ro .skip Q e ds w := fun a ha hd => wpIn_skip ⟨ha.size, by rw [ha.eq, hd]; exact h⟩
theorem Z9 (h : Q .ret e ds w) : E P N ro .ret Q e ds w := fun a ha hd => wpIn_ret ⟨ha.size, by rw [ha.eq, hd]; exact h⟩
theorem Tu {id : Nat} (h : Q (.exit id) e ds w) : E P N ro (.exit id) Q e ds w := fun a ha hd => wpIn_exit ⟨ha.size, by rw [ha.eq, hd]; exact h⟩
theorem Zf {x y : Code} (h : E P N ro x (thn (fun e ds w => E P N ro y Q e ds w) Q) e ds w) : E P N ro (.seq x y) Q e ds w := fun a ha hd => by
 refine wpIn_seq (wpIn_mono (h a ha hd) fun x a' w' hq => ?_)
 rw [By] at hq
 cases x <;> first | exact hq | skip
 exact hq.2 a' ⟨hq.1, fun _ => rfl⟩ rfl
theorem Ta {c : Operand} {x y : Code} (hc : ev e c = .bool true) (h : E P N ro x Q e ds w) : E P N ro (.cond c x y) Q e ds w :=
 fun a ha hd => wpIn_cond_true (by rw [ha.eval]; exact hc) (h a ha hd)
theorem G1 {c : Operand} {x y : Code} (hc : ev e c = .bool false) (h : E P N ro y Q e ds w) : E P N ro (.cond c x y) Q e ds w :=
 fun a ha hd => wpIn_cond_false (by rw [ha.eval]; exact hc) (h a ha hd)
theorem Zr {id : Nat} {c : Code} (h : E P N ro c (Dy id Q) e ds w) : E P N ro (.block id c) Q e ds w := fun a ha hd => by
 refine wpIn_block ?_
 rw [← Fc]
 exact h a ha hd
theorem Y9 {x y : Code} (R : Env → List Deferred → World → Prop) (h : E P N ro x (thn R Q) e ds w) (h2 : ∀ e ds w, R e ds w → E P N ro y Q e ds w) : E P N ro (.seq x y) Q e ds w :=
 Zf (E_mono h fun x e ds w hq => by cases x <;> first | exact hq | exact h2 _ _ _ hq)

def Fw (P : Program) (N : Nat) (ro : Option Nat) (c : Code) (Q : Kx) : Nat → Env → List Deferred → World → Prop
 | 0, _, _, _ => False
 | m + 1, e, ds, w => E P N ro c (thn (Fw P N ro c Q m) Q) e ds w
theorem A7 {c : Code} (m : Nat) (h : Fw P N ro c Q m e ds w) : E P N ro (.loop c) Q e ds w := fun a ha hd => by
 refine wpIn_loop_rounds m ?_
 have key : ∀ m e ds w a, Wf N e a → a.defers = ds → Fw P N ro c Q m e ds w → Code.roundsIn (fz ro) 0 P c (Ux N Q) m a w := by
  intro m
  induction m with
  | zero => intro e ds w a _ _ h; exact h.elim
  | succ m ih =>
   intro e ds w a ha hd h
   rw [roundsIn_succ]
   refine wpIn_mono (h a ha hd) fun x a' w' hq => ?_
   rw [By] at hq
   cases x <;> first | exact hq | skip
   exact ih _ _ _ a' ⟨hq.1, fun _ => rfl⟩ rfl hq.2
 exact key m e ds w a ha hd h

def EL (P : Program) (N : Nat) (ro : Option Nat) (ops : Array Oper) (l : List Oper) (Q : Kx) (e : Env) (ds : List Deferred) (w : World) : Prop :=
 ∀ a, Wf N e a → a.defers = ds → wpListIn (fz ro) 0 P ops (Ux N Q) l a w
variable {ops : Array Oper}
theorem Za {id : Nat} {l : List Oper} (h : EL P N ro l.toArray l Q e ds w) : E P N ro (.region id l.toArray false) Q e ds w :=
 fun a ha hd => wpIn_region_lit (h a ha hd)
theorem Zb (h : Q .normal e ds w) : EL P N ro ops [] Q e ds w := fun a ha hd => wpListIn_nil ⟨ha.size, by rw [ha.eq, hd]; exact h⟩


theorem Bo (b : Bool) : undef ≠ Value.bool b := by unfold undef; simp
theorem V3 {a : Act} (ha : Wf N e a) {j d : Nat} {b : Bool} (hd : (ops[j]?).bind (·.dst) = some d) (he : e d = .bool b) : yielded ops a.tmps j = some b := by
 have hg := ha.get d
 rw [he] at hg
 unfold yielded
 rw [hd]
 simp only [Option.bind_some]
 rw [Array.getD_eq_getD_getElem?] at hg
 cases h : a.tmps[d]? with
 | none => rw [h] at hg; exact absurd hg (Bo b)
 | some v => rw [h] at hg; simp only [Option.getD_some] at hg; rw [hg]
theorem Bl {a : Act} (ha : Wf N e a) {j d : Nat} (hd : (ops[j]?).bind (·.dst) = some d) (he : e d = undef) : yielded ops a.tmps j = none := by
 have hg := ha.get d
 rw [he] at hg
 unfold yielded
 rw [hd]
 simp only [Option.bind_some]
 rw [Array.getD_eq_getD_getElem?] at hg
 cases h : a.tmps[d]? with
 | none => rfl
 | some v => rw [h] at hg; simp only [Option.getD_some] at hg; rw [hg]; rfl

inductive Wants (ops : Array Oper) (e : Env) : Option (Nat × Bool) → Bool → Prop
 | plain : Wants ops e none true
 | yes {j d : Nat} {b : Bool} (hd : (ops[j]?).bind (·.dst) = some d) (he : e d = .bool b) : Wants ops e (some (j, b)) true
 | no {j d : Nat} {b b' : Bool} (hd : (ops[j]?).bind (·.dst) = some d) (he : e d = .bool b') (hne : (b' == b) = false) : Wants ops e (some (j, b)) false
 | off {j d : Nat} {b : Bool} (hd : (ops[j]?).bind (·.dst) = some d) (he : e d = undef) : Wants ops e (some (j, b)) false
theorem Wants.wanted {o : Oper} {t : Bool} {a : Act} (ha : Wf N e a) (h : Wants ops e o.guard t) : Region.wanted o (yielded ops a.tmps) = t := by
 generalize hg : o.guard = g at h
 unfold Region.wanted
 rw [hg]
 cases h with
 | plain => rfl
 | yes hd he => simp only [V3 ha hd he]; simp
 | no hd he hne => simp only [V3 ha hd he]; simpa using hne
 | off hd he => simp only [Bl ha hd he]; rfl

variable {rest : List Oper} {o : Oper}
theorem Xa {v : Value} {w' : World} (hg : Wants ops e o.guard true) (hnd : ∀ c, o.op ≠ .defer c) (hd : okO N o.dst = true)
  (hr : (execOp (ev e) o).run P w = .ok (.value v) w') (h : EL P N ro ops rest Q (Te e o.dst v) ds w') : EL P N ro ops (o :: rest) Q e ds w := fun a ha hds => by
 unfold wpListIn
 rw [if_pos (hg.wanted ha)]
 refine ⟨fun _ _ => trivial, ?_⟩
 rw [Oper.semAt_eq _ _ _ hnd, ha.eval, hr, Oper.uponIn_value]
 exact h _ (ha.putO hd v) (by rw [Q6]; exact hds)
theorem Nr {w' : World} (hg : Wants ops e o.guard true) (hnd : ∀ c, o.op ≠ .defer c) (hd : okO N o.dst = true)
  (hr : (execOp (ev e) o).run P w = .ok .skip w') (h : EL P N ro ops rest Q (Te e o.dst undef) ds w') : EL P N ro ops (o :: rest) Q e ds w := fun a ha hds => by
 unfold wpListIn
 rw [if_pos (hg.wanted ha)]
 refine ⟨fun _ _ => trivial, ?_⟩
 rw [Oper.semAt_eq _ _ _ hnd, ha.eval, hr, Oper.uponIn_skip]
 exact h _ (ha.putO hd _) (by rw [Q6]; exact hds)
theorem Na (hg : Wants ops e o.guard false) (hd : okO N o.dst = true) (h : EL P N ro ops rest Q (Te e o.dst undef) ds w) : EL P N ro ops (o :: rest) Q e ds w := fun a ha hds => by
 unfold wpListIn
 rw [if_neg (by rw [hg.wanted ha]; simp)]
 exact ⟨fun _ _ => trivial, h _ (ha.putO hd _) (by rw [Q6]; exact hds)⟩
theorem Nj {f : FuncId} {args : Array Value} {w' : World} (hg : Wants ops e o.guard true) (hnd : ∀ c, o.op ≠ .defer c) (hd : okO N o.dst = true)
  (hr : (execOp (ev e) o).run P w = .ok (.enter f args) w')
  (h : Calls P f args w' fun r w'' => ∃ v, r = .returned v ∧ EL P N ro ops rest Q (Te e o.dst v) ds w'') : EL P N ro ops (o :: rest) Q e ds w := fun a ha hds => by
 unfold wpListIn
 rw [if_pos (hg.wanted ha)]
 refine ⟨fun _ _ => trivial, ?_⟩
 rw [Oper.semAt_eq _ _ _ hnd, ha.eval, hr, Oper.uponIn_enter]
 refine ⟨Jk ro, (Y4 h).mono ?_⟩
 rintro r w'' ⟨v, rfl, hv⟩
 exact hv _ (ha.putO hd v) (by rw [Q6]; exact hds)
theorem P5 {l : Nat} {f : FuncId} {tmps : Array Value} {assign body : Code} {w' : World} (hg : Wants ops e o.guard true) (hnd : ∀ c, o.op ≠ .defer c) (hd : okO N o.dst = true)
  (hr : (execOp (ev e) o).run P w = .ok (.round l f tmps assign body) w')
  (h : RoundIn Fence.wide 0 P l f tmps assign body w' fun r w'' => ∃ v, r = .returned v ∧ EL P N ro ops rest Q (Te e o.dst v) ds w'') : EL P N ro ops (o :: rest) Q e ds w := fun a ha hds => by
 unfold wpListIn
 rw [if_pos (hg.wanted ha)]
 refine ⟨fun _ _ => trivial, ?_⟩
 rw [Oper.semAt_eq _ _ _ hnd, ha.eval, hr, Oper.uponIn_round]
 refine ⟨Jk ro, RoundIn.mono (F := fz ro) (n := 0) h ?_⟩
 rintro r w'' ⟨v, rfl, hv⟩
 exact hv _ (ha.putO hd v) (by rw [Q6]; exact hds)

def doE (P : Program) (o : Oper) (e : Env) (w : World) (K : Value → World → Prop) : Prop :=
 match (execOp (ev e) o).run P w with
 | .ok (.value v) w' => K v w'
 | .ok .skip w' => K undef w'
 | .ok (.enter f args) w' => Calls P f args w' fun r w'' => ∃ v, r = .returned v ∧ K v w''
 | .ok (.round l f tmps assign body) w' => RoundIn Fence.wide 0 P l f tmps assign body w' fun r w'' => ∃ v, r = .returned v ∧ K v w''
 | _ => False
theorem Ke {K K' : Value → World → Prop} (h : doE P o e w K) (hk : ∀ v w, K v w → K' v w) : doE P o e w K' := by
 unfold doE at *
 generalize (execOp (ev e) o).run P w = r at *
 cases r with
 | halt x w' => exact h
 | ok n w' =>
  cases n <;> first
   | exact hk _ _ h
   | exact Calls.mono h fun _ _ ⟨v, hv, hh⟩ => ⟨v, hv, hk _ _ hh⟩
   | exact RoundIn.mono h fun _ _ ⟨v, hv, hh⟩ => ⟨v, hv, hk _ _ hh⟩
   | exact h
theorem Bg {K : Value → World → Prop} (h : doE P o e w K) : ∃ v w', K v w' := by
 unfold doE at h
 generalize (execOp (ev e) o).run P w = r at *
 cases r with
 | halt x w' => exact h.elim
 | ok n w' =>
  cases n <;> first
   | exact ⟨_, _, h⟩
   | (obtain ⟨e, w'', fr, ⟨v, _, hK⟩, _⟩ := h []; exact ⟨v, w'', hK⟩)
   | (obtain ⟨e, w'', ⟨v, _, hK⟩, _⟩ := h.2 default [] (fun _ h => by cases h); exact ⟨v, w'', hK⟩)
   | exact h.elim
theorem EL_doE (hg : Wants ops e o.guard true) (hnd : ∀ c, o.op ≠ .defer c) (hd : okO N o.dst = true) (h : doE P o e w fun v w' => EL P N ro ops rest Q (Te e o.dst v) ds w') : EL P N ro ops (o :: rest) Q e ds w := by
 unfold doE at h
 split at h
 ·exact Xa hg hnd hd (by assumption) h
 ·exact Nr hg hnd hd (by assumption) h
 ·exact Nj hg hnd hd (by assumption) h
 ·exact P5 hg hnd hd (by assumption) h
 ·exact h.elim
def Yz : Op → Bool
 | .defer _ => false
 | _ => true
def Pur (P : Program) (op : Op) (e : Env) (v : Value) : Prop := ∀ d ty pos af gd w, (execOp (ev e) ⟨d, op, ty, pos, af, gd⟩).run P w = .ok (.value v) w
def Doe (P : Program) (op : Op) (e : Env) (w : World) (K : Value → World → Prop) : Prop := ∀ d ty pos af gd, doE P ⟨d, op, ty, pos, af, gd⟩ e w K
variable {op : Op} {ty : TypeId} {pos : String} {af : Array Edge} {gd : Option (Nat × Bool)} {d : Option Tmp}
theorem V8 {v : Value} (h1 : Pur P op e v) (hw : Wants ops e gd true) (hd : (Yz op && okO N d) = true) (h : EL P N ro ops rest Q (Te e d v) ds w) : EL P N ro ops (⟨d, op, ty, pos, af, gd⟩ :: rest) Q e ds w := by
 rw [Bool.and_eq_true] at hd
 exact Xa (o := ⟨d, op, ty, pos, af, gd⟩) hw (fun c hc => by have := hd.1; rw [show op = _ from hc] at this; cases this) hd.2 (h1 _ _ _ _ _ _) h
theorem Ze (hw : Wants ops e gd true) (hd : (Yz op && okO N d) = true) (h : Doe P op e w fun v w' => EL P N ro ops rest Q (Te e d v) ds w') : EL P N ro ops (⟨d, op, ty, pos, af, gd⟩ :: rest) Q e ds w := by
 rw [Bool.and_eq_true] at hd
 exact EL_doE (o := ⟨d, op, ty, pos, af, gd⟩) hw (fun c hc => by have := hd.1; rw [show op = _ from hc] at this; cases this) hd.2 (h _ _ _ _ _)
theorem La (hw : Wants ops e gd false) (hd : okO N d = true) (h : EL P N ro ops rest Q (Te e d undef) ds w) : EL P N ro ops (⟨d, op, ty, pos, af, gd⟩ :: rest) Q e ds w :=
 Na (o := ⟨d, op, ty, pos, af, gd⟩) hw hd h

def K3 (P : Program) (fn : Func) (R : Value → World → Prop) : Kx
 | .normal, e, ds, w | .ret, e, ds, w => ds = [] ∧ ∀ tmps : Array Value, (∀ t, tmps.getD t undef = e t) → ∃ v, (results fn tmps).run P w = .ok v w ∧ R v w
 | _, _, _, _ => False
def W8 (args : Array Value) : Env := fun t => args.getD t undef
theorem Qp {f : FuncId} {fn : Func} {c : Code} {args : Array Value} {R : Value → World → Prop} (hf : P.funcs[f]? = some fn) (hb : fn.body = some c) (hN : args.size ≤ fn.ntmps)
  (h : E P fn.ntmps none c (K3 P fn R) (W8 args) [] w) : Calls P f args w fun r w' => ∃ v, r = .returned v ∧ R v w' := by
 refine callsIn_wide.1 (callsIn_of_wp (n := 0) hf hb trivial ?_ rfl)
 have hsz : (args ++ Array.replicate (fn.ntmps - args.size) undef).size = fn.ntmps := by simp; omega
 have hget : ∀ t, (args ++ Array.replicate (fn.ntmps - args.size) undef).getD t undef = W8 args t := by
  intro t
  unfold W8
  simp only [Array.getD_eq_getD_getElem?, Array.getElem?_append, Array.getElem?_replicate]
  by_cases ht : t < args.size
  ·simp [ht]
  ·simp only [ht, if_false]
   rw [Array.getElem?_eq_none (by omega)]
   split <;> rfl
 refine wpIn_mono (h _ ⟨hsz, hget⟩ rfl) ?_
 rintro x a' w' ⟨_, hq⟩
 cases x <;> simp only [K3] at hq
 all_goals first | exact hq.elim | skip
 all_goals
  obtain ⟨hd, hv⟩ := hq
  obtain ⟨v, hr, hR⟩ := hv a'.tmps (fun _ => rfl)
  exact ⟨hd, v, hr, v, rfl, hR⟩
end
end Go.Proofs.YtmebkoemfjlbcaaGreatDoor
