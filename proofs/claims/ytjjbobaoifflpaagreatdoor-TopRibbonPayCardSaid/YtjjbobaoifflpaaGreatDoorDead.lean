/- The dead rest of a chain of && or ||, told in one step. No program is named here. -/
import Derived.Test.YtjjbobaoifflpaaGreatDoorMake
namespace Go.Proofs.YtjjbobaoifflpaaGreatDoor
open Go.RowKit

def Sd : Value → Bool
 | .tuple ⟨[]⟩=>true
 | _=>false
theorem Ah {v:Value} (h:Sd v=true):v=undef:=by
 unfold Sd at h
 split at h
 ·rfl
 ·cases h
def Yf (e : Env) : Op → Option Value
 | .move x=>some (ev e x)
 | .pick x y z => match ev e x with
  | .bool true=>some (ev e y)
  | .bool false=>some (ev e z)
  | _=>none
 | _=>none
def F1 (ops:Array Oper) (e:Env) (o:Oper):Option (Bool × Value):=
 match o.guard with
 | none=>(Yf e o.op).map fun v=>(true,v)
 | some (j, b) => match (ops[j]?).bind (·.dst) with
  | none=>none
  | some d => match e d with
   | .bool true=>bif b then (Yf e o.op).map fun v=>(true,v) else some (false,undef)
   | .bool false=>bif b then some (false,undef) else (Yf e o.op).map fun v=>(true,v)
   | v=>bif Sd v then some (false,undef) else none
theorem U2 {P:Program} {e:Env} {op:Op} {v:Value} (h:Yf e op=some v):Pur P op e v∧Uh op=true:=by
 unfold Yf at h
 split at h
 ·injection h with h; subst h; exact ⟨Zk rfl,rfl⟩
 ·split at h
  ·rename_i hx; injection h with h; subst h; exact ⟨Zl hx rfl,rfl⟩
  ·rename_i hx; injection h with h; subst h; exact ⟨Zl hx rfl,rfl⟩
  ·cases h
 ·cases h
theorem D7 {P : Program} {ops : Array Oper} {e : Env} {o : Oper} {t : Bool} {v : Value} (h : F1 ops e o = some (t, v)) :
  Wants ops e o.guard t∧(t=true→Pur P o.op e v∧Uh o.op=true)∧(t=false→v=undef):=by
 unfold F1 at h
 have go:∀ {t v},(Yf e o.op).map (fun v=>(true,v))=some (t,v)→t=true∧Yf e o.op=some v:=fun {t v} h=>by
  cases hv:Yf e o.op with
  | none=>rw [hv] at h; cases h
  | some u=>rw [hv] at h; simp at h; exact ⟨h.1.symm ▸ rfl,by rw [h.2]⟩
 split at h
 ·rename_i hg
  obtain ⟨rfl,hv⟩:=go h
  rw [hg]
  exact ⟨.plain,fun _=>U2 hv,by simp⟩
 ·rename_i j b hg
  rw [hg]
  split at h
  ·cases h
  ·rename_i d hd
   split at h
   ·rename_i he
    cases b with
    | true=>obtain ⟨rfl,hv⟩:=go h; exact ⟨.yes hd he,fun _=>U2 hv,by simp⟩
    | false=>simp at h; obtain ⟨rfl,rfl⟩:=h; exact ⟨.no hd he rfl,by simp,by simp⟩
   ·rename_i he
    cases b with
    | true=>simp at h; obtain ⟨rfl,rfl⟩:=h; exact ⟨.no hd he rfl,by simp,by simp⟩
    | false=>obtain ⟨rfl,hv⟩:=go h; exact ⟨.yes hd he,fun _=>U2 hv,by simp⟩
   ·rename_i hb1 hb2
    cases hu:Sd (e d) with
    | true=>rw [hu] at h; simp at h; obtain ⟨rfl,rfl⟩:=h; exact ⟨.off hd (Ah hu),by simp,by simp⟩
    | false=>rw [hu] at h; cases h
def Db (ops : Array Oper) (N : Nat) : Nat → List Oper → Env → Option (List Oper × Env)
 | 0,l,e=>some (l,e)
 | n + 1, o :: l, e => match F1 ops e o with
  | some (_,v)=>bif okO N o.dst then Db ops N n l (Qb e o.dst v) else none
  | none=>none
 | _ + 1,[],_=>none
theorem Qv {P:Program} {N:Nat} {ro:Option Nat} {ops:Array Oper} {Q:Hx} {ds:List Deferred} {w:World} (n:Nat):∀ {l l':List Oper} {e e':Env},Db ops N n l e=some (l',e')→EL P N ro ops l' Q e' ds w→EL P N ro ops l Q e ds w:=by
 induction n with
 | zero=>intro l l' e e' h k; simp only [Db,Option.some.injEq,Prod.mk.injEq] at h; obtain ⟨rfl,rfl⟩:=h; exact k
 | succ n ih=>
  intro l l' e e' h k
  cases l with
  | nil=>simp [Db] at h
  | cons o l=>
   unfold Db at h
   split at h
   ·rename_i t v ho
    cases hN:okO N o.dst with
    | false=>rw [hN] at h; cases h
    | true=>
     rw [hN] at h
     obtain ⟨h1,h2,h3⟩:=D7 (P:=P) ho
     have:=ih h k
     obtain ⟨d,op,ty,pos,af,gd⟩:=o
     cases t with
     | true=>obtain ⟨hp,hn⟩:=h2 rfl; exact D1 hp h1 (by rw [Bool.and_eq_true]; exact ⟨hn,hN⟩) this
     | false=>rw [h3 rfl] at this; exact B7 h1 hN this
   ·cases h
def Yy (ops : Array Oper) (Φ : Uj) : Nat → List Nat → (Nat → T6) → Env → Option (List Nat × (Nat → T6) × Env)
 | 0,l,F,e=>some (l,F,e)
 | n + 1, i :: l, F, e => match ops[i]? with
  | none=>none
  | some o => match F1 ops e o with
   | some (true, v) => match Φ i with
    | none=>Yy ops Φ n l (Wj F i (fun g w=>∀ j ∈ G1 o,F j g w)) (Qb e o.dst v)
    | some _=>none
   | some (false,_)=>Yy ops Φ n l (Wj F i (fun _ _=>True)) (Qb e o.dst undef)
   | none=>none
 | _ + 1,[],_,_=>none
theorem Xb {SR:K8} {P:Program} {ops:Array Oper} {C:T6} {Φ:Uj} {Q:Env→T6} (hnl:∀ i,SR.late i=false) (n:Nat):∀ {l l':List Nat} {F F':Nat→T6} {e e':Env},Yy ops Φ n l F e=some (l',F',e')→Lex SR P ops C Φ Q l' F' e'→Lex SR P ops C Φ Q l F e:=by
 induction n with
 | zero=>intro l l' F F' e e' h k; simp only [Yy,Option.some.injEq,Prod.mk.injEq] at h; obtain ⟨rfl,rfl,rfl⟩:=h; exact k
 | succ n ih=>
  intro l l' F F' e e' h k
  cases l with
  | nil=>simp [Yy] at h
  | cons i l=>
   unfold Yy at h
   split at h
   ·cases h
   ·rename_i o ho
    split at h
    ·rename_i v hv
     split at h
     ·rename_i hφ
      obtain ⟨h1,h2,_⟩:=D7 (P:=P) hv
      obtain ⟨d,op,ty,pos,af,gd⟩:=o
      exact Y4 ho hφ h1 (fun _ _ _=>(h2 rfl).1) (ih h k) (hnl i)
     ·cases h
    ·rename_i hv
     obtain ⟨h1,_,_⟩:=D7 (P:=P) hv
     obtain ⟨d,op,ty,pos,af,gd⟩:=o
     exact Ny ho h1 (ih h k)
    ·cases h
end Go.Proofs.YtjjbobaoifflpaaGreatDoor
