/- Steps that printed proofs take most often, as one lemma each (sq.py puts them in). No program is named here. -/
import Derived.Test.YtepehlhgkipcoaaGreatDoorGen
import Derived.Test.YtepehlhgkipcoaaGreatDoorCall
namespace Go.Proofs.YtepehlhgkipcoaaGreatDoor
open Go.RowKit
abbrev Iz (n:Int):Value:=.int .i64 n
theorem rq (x:Value):x=x:=rfl
theorem RVc {α:Type} [GoT α] {m m':Nat→Nat} {w:World} {x:α} {v:Value} (h:m'=m) (r:RV m w x v):RV m' w x v:=h ▸ r
theorem fnE {P : Program} {f : FuncId} {fn : Func} {c : Code} {args : Array Value} {g : Gh} {w : World} {R : (Nat → Nat) → World → Value → Prop} (hf : P.funcs[f]? = some fn) (hb : fn.body = some c) (hN : Nat.ble args.size fn.ntmps = true)
  (h:∀ g0,g0.m=g.m→Fr g w g0 w→E P fn.ntmps none c (Jw P fn (Out g w R)) (J4 args) [] w):Fn P f args g w R:=E6 hf hb (Nat.le_of_ble_eq_true hN) h
section
variable {P:Program} {N:Nat} {ro:Option Nat} {Q:Jg} {e:Env} {ds:List Deferred} {w:World} {ops:Array Oper}
theorem Z4 {K:Env→List Deferred→World→Prop} (h:K e ds w):EL P N ro ops [] (thn K Q) e ds w:=Zb h
theorem Z7 {id:Nat} {l:List Oper} {y:Code} (h:EL P N ro l.toArray l (thn (fun e ds w=>E P N ro y Q e ds w) Q) e ds w):E P N ro (.seq (.region id l.toArray false) y) Q e ds w:=Zf (Za h)
variable {rest:List Oper} {op:Op} {ty:TypeId} {pos:String} {af:Array Edge} {d:Option Tmp}
theorem Z6 (hd:(U0 op && okO N d)=true) (h:Doe P op e w fun v w'=>EL P N ro ops rest Q (Qc e d v) ds w'):EL P N ro ops (⟨d,op,ty,pos,af,none⟩ :: rest) Q e ds w:=Ze .plain hd h
end
end Go.Proofs.YtepehlhgkipcoaaGreatDoor
