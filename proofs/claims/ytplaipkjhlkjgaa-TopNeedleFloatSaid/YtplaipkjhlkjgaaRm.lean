/- A machine of plain data: code, calls, Sb. No program is named here. -/
import Derived.Test.YtplaipkjhlkjgaaRs
namespace Go.Proofs.Ytplaipkjhlkjgaa
noncomputable section
open Go.RowKit
inductive AX where
 | nrm
 | ret
 | exit (id:Nat)
structure XO where
 x:AX
 env:Gv
 ms:List Nat
 v:AV
 S:St
inductive Tk where
 | c (inr:Bool) (N:Nat) (c:Code) (env:Gv) (ms:List Nat)
 | l (all rest:List Oper) (env:Gv)
 | o (o:Oper) (env:Gv)
 | f (f:FuncId) (args:List AV)
 | r (l:Nat) (args:List AV)
 | lp (inr:Bool) (N:Nat) (a:Code) (env:Gv) (ms:List Nat)
def Ca {α : Type} (f : α → Option (List XO)) : List α → Option (List XO)
 | []=>some []
 | o :: l => match f o, Ca f l with
  | some a,some b=>some (a ++ b)
  | _,_=>none
def catA {α:Type} (f:α→Option (List XO)) (l:List α):Option (List XO):=
 List.rec (motive:=fun _=>Option (List XO)) (some []) (fun r l1 _=>List.rec (motive:=fun _=>Option (List XO)) (f r) (fun _ _ _=>Ca f l) l1) l
theorem Dt {α:Type} (f:α→Option (List XO)) (l:List α):catA f l=Ca f l:=by
 match l with
 | []=>rfl
 | [r]=>simp only [catA,Ca]; cases f r <;> simp
 | _ :: _ :: _=>rfl
def Xh (x:Option (List XO)) (f:XO→Option (List XO)):Option (List XO):=
 Option.rec (motive:=fun _=>Option (List XO)) none (fun l=>catA f l) x
def Xs (ops:List Oper) (env:Gv) (o:Oper):Option Bool:=
 match o.guard with
 | none=>some true
 | some (j, b) => match (ops[j]?).bind (·.dst) with
  | none=>none
  | some d => match env.at d with
   | .v false [.k (.bool b')]=>some (b' == b)
   | .u=>some false
   | _=>none
def Ih (env:Gv) (d:Option Nat) (a:AV):Gv:=
 match d with
 | some d=>Mp.set env d (some a)
 | none=>env
def setPs (env : Gv) : List Nat → List AV → Gv
 | p :: ps,a :: l=>setPs (Mp.set env p (some a)) ps l
 | _,_=>env
def envL : List AV → Nat → Gv → Gv
 | [],_,e=>e
 | a :: l,k,e=>envL l (k + 1) (Mp.set e k (some a))
def Jg (cx : Cx) (S : St) : List Nat → Option St
 | []=>some S
 | d :: ds => match S.look cx d with
  | some .dfr => match S.put cx d none with
   | some S1=>Jg cx S1 ds
   | none=>none
  | _=>none
def aRes1 (P : Program) (cx : Cx) (S : St) (env : Gv) : ResultVar → Option (Bool × List C)
 | .tmp t => match env.at t with
  | .v g cs=>some (g,cs)
  | _=>none
 | .cell a t => match env.at a with
  | .v false [.p b off] => match Me P cx S t b off with
   | some (.v g cs)=>some (g,cs)
   | _=>none
  | _=>none
def Iv (P : Program) (cx : Cx) (S : St) (env : Gv) : List ResultVar → Option (List (Bool × List C))
 | []=>some []
 | r :: rs => match aRes1 P cx S env r, Iv P cx S env rs with
  | some p,some l=>some (p :: l)
  | _,_=>none
def Ia (P:Program) (cx:Cx) (S:St) (env:Gv) (rs:List ResultVar):Option AV:=
 match Iv P cx S env rs with
 | some []=>some .u
 | some [p]=>some (.v p.1 p.2)
 | some l=>some (.t l)
 | none=>none
def blkX (id : Nat) : AX → AX
 | .exit i=>bif Nat.beq i id then .nrm else .exit i
 | x=>x
def Bn : AX → Option Code
 | .nrm=>none
 | .ret=>some .ret
 | .exit id=>some (.exit id)
def xo1 (S:St) (v:AV):XO:={ x:=.nrm,env:=Mp.nil,ms:=[],v:=v,S:=S }
def Cl (cx:Cx) (l:Nat) (env:Gv) (ms:List Nat) (S:St):Option (List XO):=
 match S.look cx l with
 | some (.loop N' env' ps' asg' body' st pend dfr) => match st with
  | .busy=>none
  | _ => match S.put cx l (some (.loop N' env' ps' asg' body' .exhausted pend dfr)) with
   | some S2 => match pend with
    | none=>some [{ x:=.nrm,env:=env,ms:=ms,v:=.u,S:=S2 }]
    | some .ret=>some [{ x:=.ret,env:=env,ms:=ms,v:=.u,S:=S2 }]
    | some (.exit id)=>some [{ x:=.exit id,env:=env,ms:=ms,v:=.u,S:=S2 }]
    | _=>none
   | none=>none
 | _=>none
def Ld (cx:Cx) (l:Nat) (x:AX) (S:St):Option (List XO):=
 match S.look cx l with
 | some (.loop N' env' ps' asg' body' _ _ dfr) => match S.put cx l (some (.loop N' env' ps' asg' body' (bif (Bn x).isNone then .ready else .done) (Bn x) dfr)) with
  | some S2=>some [xo1 S2 (.v false [.k (.bool (Bn x).isNone)])]
  | none=>none
 | _=>none
def Bq (cx:Cx) (l:Nat) (S:St):Option St:=
 match S.look cx l with
 | some (.loop N' env' ps' asg' body' .ready pend dfr)=>S.put cx l (some (.loop N' env' ps' asg' body' .busy pend dfr))
 | _=>none
/-! ### Drawing regions -/
structure Rc where
 k:Nat
 o:Oper
 want:Bool
 cx:Cx
 env:Gv
 S:St
 q:XO
def Rc.tch (r:Rc) (b:Nat):Bool:=r.q.S.log.contains b || (Nat.ble r.S.n b && Nat.blt b r.q.S.n)
def Rc.sees (r:Rc) (b:Nat):Bool:=Nat.blt b r.S.n && r.cx.see b
def dcx (cx:Cx) (ft:Nat→Bool) (m:Nat) (rs:List Rc) (n:Nat):Cx:=
 ⟨fun b=>cx.vis b && ft b && rs.all (fun r=>m.testBit r.k || !r.tch b),fun b=>cx.mod b && rs.all (fun r=>m.testBit r.k || !r.sees b),n⟩
def cellB (b : Nat) : C → Bool
 | .p c _=>Nat.beq c b
 | .s c _ _ _ _=>Nat.beq c b
 | .m c=>Nat.beq c b
 | _=>false
def opB (env : Gv) (b : Nat) (x : Operand) : Bool := match aop env x with
 | some (.v _ cs)=>cs.any (cellB b)
 | _=>false
def foot (env : Gv) (o : Oper) : Nat → Bool := match o.op with
 | .call c => match c.callee with
  | .value _=>fun _=>true
  | _=>fun b=>o.op.operands.toList.any (opB env b)
 | .range _ _=>fun _=>true
 | .next _ _=>fun _=>true
 | .entry _=>fun _=>true
 | .load _ _=>fun b=>o.op.operands.toList.any (opB env b)
 | .store _ _ _=>fun b=>o.op.operands.toList.any (opB env b)
 | .slice _ _ _ _ _=>fun b=>o.op.operands.toList.any (opB env b)
 | .lookup _ _ _ _=>fun b=>o.op.operands.toList.any (opB env b)
 | .mapUpdate _ _ _ _=>fun b=>o.op.operands.toList.any (opB env b)
 | .insert _ _ _ _=>fun b=>o.op.operands.toList.any (opB env b)
 | .mapEntry _ _ _=>fun b=>o.op.operands.toList.any (opB env b)
 | .entryStore _ _ _ _=>fun b=>o.op.operands.toList.any (opB env b)
 | _=>fun _=>false
def mrg (c : Nat) (l : List Nat) : List Nat → List Nat
 | []=>l
 | b :: bs=>bif Nat.blt b c && !(l.contains b) then b :: mrg c l bs else mrg c l bs
def St.bare (S:St):St:={ n:=S.n,h:=S.h,log:=[] }
def St.back (S:St) (cx:Cx) (T:St):St:={ n:=T.n,h:=T.h,log:=mrg cx.cut S.log T.log }
def drw (run : Cx → Oper → Gv → St → Option (List XO)) (cx : Cx) (all : List Oper) (ms : List Nat) : List Oper → List Rc → Gv → St → Option (Gv × St)
 | [],_,env,S=>some (env,S)
 | o :: l, rs, env, S => match Xs all env o with
  | some true => match run (dcx cx (foot env o) (ms.getD rs.length 0) rs S.n) o env S.bare with
   | some [q]=>drw run cx all ms l ({ k:=rs.length,o:=o,want:=true,cx:=dcx cx (foot env o) (ms.getD rs.length 0) rs S.n,env:=env,S:=S.bare,q:=q } :: rs) (Ih env o.dst q.v) (S.back cx q.S)
   | _=>none
  | some false=>drw run cx all ms l ({ k:=rs.length,o:=o,want:=false,cx:=⟨fun _=>false,fun _=>false,S.n⟩,env:=env,S:=S.bare,q:=xo1 S.bare .u } :: rs) (Ih env o.dst .u) S
  | none=>none
def drwX (ms : List Nat) : Option (Gv × St) → Option (List XO)
 | some p=>some [{ x:=.nrm,env:=p.1,ms:=ms,v:=.u,S:=p.2 }]
 | none=>none
/-! ### Forcing
The kernel is lazy: what is stored is laid open first. Each of these is 'k x'. -/
def Dc {β:Type} (n:Nat) (k:Nat→β):β:=Nat.rec (motive:=fun _=>β) (k (nat_lit 0)) (fun m _=>k (Nat.succ m)) n
theorem Xk {β:Type} (n:Nat) (k:Nat→β):Dc n k=k n:=by cases n <;> rfl
def fInt {β:Type} (i:Int) (k:Int→β):β:=Int.rec (motive:=fun _=>β) (fun n=>Dc n fun n=>k (Int.ofNat n)) (fun n=>Dc n fun n=>k (Int.negSucc n)) i
theorem fInt_eq {β:Type} (i:Int) (k:Int→β):fInt i k=k i:=by cases i <;> simp only [fInt,Xk]
def Sj {β:Type} (b:Bool) (k:Bool→β):β:=Bool.rec (motive:=fun _=>β) (k false) (k true) b
theorem Bh {β:Type} (b:Bool) (k:Bool→β):Sj b k=k b:=by cases b <;> rfl
def fVal {β : Type} (v : Value) (k : Value → β) : β := Value.rec (motive_1 := fun _ => β) (motive_2 := fun _ => PUnit) (motive_3 := fun _ => PUnit)
 (fun b=>Sj b fun b=>k (.bool b)) (fun t i=>fInt i fun i=>k (.int t i)) (fun _ _=>k v) (fun _ _ _=>k v) (fun _=>k v) (fun _=>k v) (fun _ _ _=>k v) (fun _=>k v) (fun _=>k v) (fun _ _ _ _ _=>k v) (k v) (fun _ _ _=>k v) (k v) (fun _ _=>k v) (fun _ _=>k v) (fun _ _=>PUnit.unit) PUnit.unit (fun _ _ _ _=>PUnit.unit) v
theorem fVal_eq {β:Type} (v:Value) (k:Value→β):fVal v k=k v:=by cases v <;> simp only [fVal,Bh,fInt_eq]
def fOpt {β : Type} (o : Option Nat) (k : Option Nat → β) : β := match o with
 | none=>k none
 | some n=>Dc n fun n=>k (some n)
theorem fOpt_eq {β:Type} (o:Option Nat) (k:Option Nat→β):fOpt o k=k o:=by cases o <;> simp only [fOpt,Xk]
def fC {β : Type} (c : C) (k : C → β) : β := C.rec (motive := fun _ => β) (fun v => fVal v fun v => k (.k v)) (fun b off => Dc b fun b => Dc off fun off => k (.p b off))
 (fun b off len cap z=>Dc b fun b=>Dc off fun off=>Dc len fun len=>fOpt cap fun cap=>Dc z fun z=>k (.s b off len cap z)) (fun f=>Sj f fun f=>k (.e f)) (fun b=>Dc b fun b=>k (.m b)) (fun f l=>k (.f f l)) (fun l=>k (.y l)) c
theorem fC_eq {β:Type} (c:C) (k:C→β):fC c k=k c:=by cases c <;> simp only [fC,fVal_eq,Xk,fOpt_eq,Bh]
def fCs {β:Type} (l:List C):(List C→β)→β:=List.rec (motive:=fun _=>(List C→β)→β) (fun k=>k []) (fun c _ ih k=>fC c fun c=>ih fun l=>k (c :: l)) l
theorem fCs_eq {β : Type} : ∀ (l : List C) (k : List C → β), fCs l k = k l
 | [],_=>rfl
 | c :: l,k=>by
  show (fC c fun c=>fCs l fun l=>k (c :: l))=_
  rw [fC_eq,fCs_eq l]
def fAV {β : Type} (a : AV) (k : AV → β) : β := match a with
 | .v g cs=>Sj g fun g=>fCs cs fun cs=>k (.v g cs)
 | a=>k a
theorem Ut {β:Type} (a:AV) (k:AV→β):fAV a k=k a:=by cases a <;> simp only [fAV,Bh,fCs_eq]
def fTr {α β:Type} (t:Tr α) (k:Tr α→β):β:=Tr.rec (motive:=fun _=>β) (k .nil) (fun l v r _ _=>k (.nd l v r)) t
theorem fTr_eq {α β:Type} (t:Tr α) (k:Tr α→β):fTr t k=k t:=by cases t <;> rfl
def fMp {α β:Type} (m:Mp α) (k:Mp α→β):β:=Mp.rec (motive:=fun _=>β) (fun t b=>fTr t fun t=>k ⟨t,b⟩) m
theorem Np {α β:Type} (m:Mp α) (k:Mp α→β):fMp m k=k m:=by cases m; simp only [fMp,fTr_eq]
def fSt {β:Type} (S:St) (k:St→β):β:=St.rec (motive:=fun _=>β) (fun n h l=>Dc n fun n=>fMp h fun h=>k ⟨n,h,l⟩) S
theorem Jz {β:Type} (S:St) (k:St→β):fSt S k=k S:=by cases S; simp only [fSt,Xk,Np]
abbrev Run:=Cx→Tk→St→Option (List XO)
def goA (run : Run) (cx : Cx) (S : St) : AR → Option (List XO)
 | .v x S'=>bif Nat.ble S.n S'.n then some [xo1 S' x] else none
 | .call f args=>run cx (.f f args) S
 | .rnd l args=>run cx (.r l args) S
def goO (run : Run) (cx : Cx) (S : St) (x : Option (List AR)) : Option (List XO) := match x with
 | some (r :: rs)=>catA (goA run cx S) (r :: rs)
 | _=>none
def goL1 (run : Run) (cx : Cx) (all : List Oper) (o : Oper) (rest : List Oper) (env : Gv) (S : St) (b : Option Bool) : Option (List XO) := match b with
 | some true=>Xh (run cx (.o o env) S) fun r=>fSt r.S fun S=>fAV r.v fun v=>fMp (Ih env o.dst v) fun env=>run cx (.l all rest env) S
 | some false=>run cx (.l all rest (Ih env o.dst .u)) S
 | none=>none
def goL (run : Run) (cx : Cx) (all : List Oper) (rest : List Oper) (env : Gv) (S : St) : Option (List XO) := match rest with
 | []=>some [{ x:=.nrm,env:=env,ms:=[],v:=.u,S:=S }]
 | o :: rest=>goL1 run cx all o rest env S (Xs all env o)
def gSeq (run : Run) (cx : Cx) (inr : Bool) (N : Nat) (a b : Code) (env : Gv) (ms : List Nat) (S : St) : Option (List XO) := Xh (run cx (.c inr N a env ms) S) fun r => match r.x with
 | .nrm=>run cx (.c inr N b r.env r.ms) r.S
 | _=>some [r]
def gCond (run : Run) (cx : Cx) (inr : Bool) (N : Nat) (k : Option Value) (a b : Code) (env : Gv) (ms : List Nat) (S : St) : Option (List XO) := match k with
 | some (.bool t)=>run cx (.c inr N (bif t then a else b) env ms) S
 | _=>none
def gReg (run:Run) (cx:Cx) (ops:Array Oper) (draw:Bool) (env:Gv) (ms:List Nat) (S:St):Option (List XO):=
 bif draw then drwX ms (drw (fun cxk o env S=>run cxk (.o o env) S) cx ops.toList (Ck ops.toList) ops.toList [] env S)
 else Xh (run cx (.l ops.toList ops.toList env) S) fun r=>some [{ x:=.nrm,env:=r.env,ms:=ms,v:=.u,S:=r.S }]
def gRng (tab:Tab) (run:Run) (cx:Cx) (inr:Bool) (N:Nat) (f:Operand) (ps:Array Tmp) (asg body:Code) (env:Gv) (ms:List Nat) (S:St):Option (List XO):=
 bif inr then none else match aop env f with
  | some (.v false [.f g caps]) => bif (tab.get g).isSome then
    Xh (run cx (.f g (.v false [.y (S.n + 1)] :: caps.map capV)) ((S.new .dfr).new (.loop N env ps.toList asg body .ready none S.n))) fun r=>Cl cx (S.n + 1) env (S.n :: ms) r.S
   else none
  | _=>none
def goC (tab : Tab) (run : Run) (cx : Cx) (inr : Bool) (N : Nat) (c : Code) (env : Gv) (ms : List Nat) (S : St) : Option (List XO) := match c with
 | .skip=>some [{ x:=.nrm,env:=env,ms:=ms,v:=.u,S:=S }]
 | .ret=>some [{ x:=.ret,env:=env,ms:=ms,v:=.u,S:=S }]
 | .exit id=>some [{ x:=.exit id,env:=env,ms:=ms,v:=.u,S:=S }]
 | .seq a b=>gSeq run cx inr N a b env ms S
 | .cond k a b=>gCond run cx inr N (Ub env k) a b env ms S
 | .block id a=>Xh (run cx (.c inr N a env ms) S) fun r=>some [{ x:=blkX id r.x,env:=r.env,ms:=r.ms,v:=.u,S:=r.S }]
 | .loop a=>run cx (.lp inr N a env ms) S
 | .region _ ops draw=>gReg run cx ops draw env ms S
 | .rangeFunc f ps asg body=>gRng tab run cx inr N f ps asg body env ms S
 | _=>none
def goLp (run : Run) (cx : Cx) (inr : Bool) (N : Nat) (a : Code) (env : Gv) (ms : List Nat) (S : St) : Option (List XO) := Xh (run cx (.c inr N a env ms) S) fun r => match r.x with
 | .nrm=>run cx (.lp inr N a r.env r.ms) r.S
 | _=>some [r]
def goF (P : Program) (run : Run) (cx : Cx) (args : List AV) (S : St) (i : Option FI) : Option (List XO) := match i with
 | some i => bif Nat.ble args.length i.fn.ntmps then
   Xh (run cx (.c false i.fn.ntmps i.c (envL args 0 Mp.nil) []) S) fun r=>match r.x with
   | .exit _=>none
   | _ => match Jg cx r.S r.ms with
    | some S2 => match Ia P cx S2 r.env i.fn.results.toList with
     | some v=>some [xo1 S2 v]
     | none=>none
    | none=>none
  else none
 | none=>none
def goR (run : Run) (cx : Cx) (l : Nat) (args : List AV) (S : St) : Option (List XO) := match S.look cx l with
 | some (.loop N env ps asg body _ _ _) => bif Nat.beq args.length ps.length then
   Xh (run cx (.c true N asg (setPs env ps args) []) S) fun r=>match r.x with
   | .nrm => match Bq cx l r.S with
    | some S1=>Xh (run cx (.c true N body r.env r.ms) S1) fun q=>Ld cx l q.x q.S
    | none=>none
   | _=>none
  else none
 | _=>none
def goB (P : Program) (tab : Tab) (run : Run) (cx : Cx) (tk : Tk) (S : St) : Option (List XO) := match tk with
 | .o o env=>goO run cx S (Ni P tab cx S env o)
 | .l all rest env=>goL run cx all rest env S
 | .c inr N c env ms=>goC tab run cx inr N c env ms S
 | .f f args=>goF P run cx args S (tab.get f)
 | .r l args=>goR run cx l args S
 | .lp inr N a env ms=>goLp run cx inr N a env ms S
def go (P:Program) (tab:Tab) (n:Nat):Cx→Tk→St→Option (List XO):=Nat.rec (motive:=fun _=>Cx→Tk→St→Option (List XO)) (fun _ _ _=>none) (fun _ ih=>goB P tab ih) n
theorem go_z {P:Program} {tab:Tab} {cx:Cx} {tk:Tk} {S:St}:go P tab 0 cx tk S=none:=rfl
theorem Xc {P:Program} {tab:Tab} {n:Nat} {cx:Cx} {tk:Tk} {S:St}:go P tab (n + 1) cx tk S=goB P tab (go P tab n) cx tk S:=rfl
end
end Go.Proofs.Ytplaipkjhlkjgaa
