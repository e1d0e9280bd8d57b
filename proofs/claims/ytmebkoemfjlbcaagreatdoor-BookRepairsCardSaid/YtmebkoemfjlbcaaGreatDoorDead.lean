/- The dead rest of a chain of && or ||, told in one step. No program is named here. -/
import Derived.Test.YtmebkoemfjlbcaaGreatDoorMake
namespace Go.Proofs.YtmebkoemfjlbcaaGreatDoor
open Go.RowKit

def isUndef : Value → Bool
 | .tuple ⟨[]⟩=>true
 | _=>false
theorem isUndef_eq {v:Value} (h:isUndef v=true):v=undef:=by
 unfold isUndef at h
 split at h
 ·rfl
 ·cases h
def deadVal (e : Env) : Op → Option Value
 | .move x=>some (ev e x)
 | .pick x y z => match ev e x with
  | .bool true=>some (ev e y)
  | .bool false=>some (ev e z)
  | _=>none
 | _=>none
def deadOp (ops:Array Oper) (e:Env) (o:Oper):Option (Bool × Value):=
 match o.guard with
 | none=>(deadVal e o.op).map fun v=>(true,v)
 | some (j, b) => match (ops[j]?).bind (·.dst) with
  | none=>none
  | some d => match e d with
   | .bool true=>bif b then (deadVal e o.op).map fun v=>(true,v) else some (false,undef)
   | .bool false=>bif b then some (false,undef) else (deadVal e o.op).map fun v=>(true,v)
   | v=>bif isUndef v then some (false,undef) else none
theorem deadVal_pur {P:Program} {e:Env} {op:Op} {v:Value} (h:deadVal e op=some v):Pur P op e v∧nodef op=true:=by
 unfold deadVal at h
 split at h
 ·injection h with h; subst h; exact ⟨Zk rfl,rfl⟩
 ·split at h
  ·rename_i hx; injection h with h; subst h; exact ⟨Zl hx rfl,rfl⟩
  ·rename_i hx; injection h with h; subst h; exact ⟨Zl hx rfl,rfl⟩
  ·cases h
 ·cases h
theorem deadOp_ok {P : Program} {ops : Array Oper} {e : Env} {o : Oper} {t : Bool} {v : Value} (h : deadOp ops e o = some (t, v)) :
  Wants ops e o.guard t∧(t=true→Pur P o.op e v∧nodef o.op=true)∧(t=false→v=undef):=by
 unfold deadOp at h
 have go:∀ {t v},(deadVal e o.op).map (fun v=>(true,v))=some (t,v)→t=true∧deadVal e o.op=some v:=fun {t v} h=>by
  cases hv:deadVal e o.op with
  | none=>rw [hv] at h; cases h
  | some u=>rw [hv] at h; simp at h; exact ⟨h.1.symm ▸ rfl,by rw [h.2]⟩
 split at h
 ·rename_i hg
  obtain ⟨rfl,hv⟩:=go h
  rw [hg]
  exact ⟨.plain,fun _=>deadVal_pur hv,by simp⟩
 ·rename_i j b hg
  rw [hg]
  split at h
  ·cases h
  ·rename_i d hd
   split at h
   ·rename_i he
    cases b with
    | true=>obtain ⟨rfl,hv⟩:=go h; exact ⟨.yes hd he,fun _=>deadVal_pur hv,by simp⟩
    | false=>simp at h; obtain ⟨rfl,rfl⟩:=h; exact ⟨.no hd he rfl,by simp,by simp⟩
   ·rename_i he
    cases b with
    | true=>simp at h; obtain ⟨rfl,rfl⟩:=h; exact ⟨.no hd he rfl,by simp,by simp⟩
    | false=>obtain ⟨rfl,hv⟩:=go h; exact ⟨.yes hd he,fun _=>deadVal_pur hv,by simp⟩
   ·rename_i hb1 hb2
    cases hu:isUndef (e d) with
    | true=>rw [hu] at h; simp at h; obtain ⟨rfl,rfl⟩:=h; exact ⟨.off hd (isUndef_eq hu),by simp,by simp⟩
    | false=>rw [hu] at h; cases h
def deadRun (ops : Array Oper) (N : Nat) : Nat → List Oper → Env → Option (List Oper × Env)
 | 0,l,e=>some (l,e)
 | n + 1, o :: l, e => match deadOp ops e o with
  | some (_,v)=>bif okO N o.dst then deadRun ops N n l (updO e o.dst v) else none
  | none=>none
 | _ + 1,[],_=>none
theorem EL_dead {P:Program} {N:Nat} {ro:Option Nat} {ops:Array Oper} {Q:Post} {ds:List Deferred} {w:World} (n:Nat):∀ {l l':List Oper} {e e':Env},deadRun ops N n l e=some (l',e')→EL P N ro ops l' Q e' ds w→EL P N ro ops l Q e ds w:=by
 induction n with
 | zero=>intro l l' e e' h k; simp only [deadRun,Option.some.injEq,Prod.mk.injEq] at h; obtain ⟨rfl,rfl⟩:=h; exact k
 | succ n ih=>
  intro l l' e e' h k
  cases l with
  | nil=>simp [deadRun] at h
  | cons o l=>
   unfold deadRun at h
   split at h
   ·rename_i t v ho
    cases hN:okO N o.dst with
    | false=>rw [hN] at h; cases h
    | true=>
     rw [hN] at h
     obtain ⟨h1,h2,h3⟩:=deadOp_ok (P:=P) ho
     have:=ih h k
     obtain ⟨d,op,ty,pos,af,gd⟩:=o
     cases t with
     | true=>obtain ⟨hp,hn⟩:=h2 rfl; exact EL_pur hp h1 (by rw [Bool.and_eq_true]; exact ⟨hn,hN⟩) this
     | false=>rw [h3 rfl] at this; exact EL_skip h1 hN this
   ·cases h
def deadRunL (ops : Array Oper) (Φ : Words) : Nat → List Nat → (Nat → Fact) → Env → Option (List Nat × (Nat → Fact) × Env)
 | 0,l,F,e=>some (l,F,e)
 | n + 1, i :: l, F, e => match ops[i]? with
  | none=>none
  | some o => match deadOp ops e o with
   | some (true, v) => match Φ i with
    | none=>deadRunL ops Φ n l (setF F i (fun g w=>∀ j ∈ directOf o,F j g w)) (updO e o.dst v)
    | some _=>none
   | some (false,_)=>deadRunL ops Φ n l (setF F i (fun _ _=>True)) (updO e o.dst undef)
   | none=>none
 | _ + 1,[],_,_=>none
theorem L_dead {SR:StepRel} {P:Program} {ops:Array Oper} {C:Fact} {Φ:Words} {Q:Env→Fact} (hnl:∀ i,SR.late i=false) (n:Nat):∀ {l l':List Nat} {F F':Nat→Fact} {e e':Env},deadRunL ops Φ n l F e=some (l',F',e')→Lex SR P ops C Φ Q l' F' e'→Lex SR P ops C Φ Q l F e:=by
 induction n with
 | zero=>intro l l' F F' e e' h k; simp only [deadRunL,Option.some.injEq,Prod.mk.injEq] at h; obtain ⟨rfl,rfl,rfl⟩:=h; exact k
 | succ n ih=>
  intro l l' F F' e e' h k
  cases l with
  | nil=>simp [deadRunL] at h
  | cons i l=>
   unfold deadRunL at h
   split at h
   ·cases h
   ·rename_i o ho
    split at h
    ·rename_i v hv
     split at h
     ·rename_i hφ
      obtain ⟨h1,h2,_⟩:=deadOp_ok (P:=P) hv
      obtain ⟨d,op,ty,pos,af,gd⟩:=o
      exact L_pur ho hφ h1 (fun _ _ _=>(h2 rfl).1) (ih h k) (hnl i)
     ·cases h
    ·rename_i hv
     obtain ⟨h1,_,_⟩:=deadOp_ok (P:=P) hv
     obtain ⟨d,op,ty,pos,af,gd⟩:=o
     exact L_skip ho h1 (ih h k)
    ·cases h
end Go.Proofs.YtmebkoemfjlbcaaGreatDoor
