/- Appends of own rows to an own slice of slices. No program is named here. -/
import Derived.Test.YtmpjooneiaiffaaCh
namespace Go.Proofs.Ytmpjooneiaiffaa
open Go.RowKit
section
variable {γ:Type} [GoT γ] {E:Ow γ} {P:Program} {m:Nat→Nat} {w:World} {g:Gh} {e:Env} {K:Value→World→Prop} {x y:Operand}
end
end Go.Proofs.Ytmpjooneiaiffaa
/- A region that draws its order, whose changing operations come in one order; some loads come before one of them, the operation M. No program is named here. -/
namespace Go.Proofs.Ytmpjooneiaiffaa
open Go.RowKit
section
variable {P:Program} {ops:Array Oper}
def CES (P:Program) (cst:Nat→Option Bool) (L:Bool→World→Prop) (ops:Array Oper) (i:Nat) (o:Oper) (ph:Bool) (K:Env→World→Prop) (e:Env) (w:World):Prop:=
 if Region.wanted o (yieldE ops e) = true then
  match cst i with
  | some b=>∃ c,(∀ w,L b w→(execOp (ev e) o).run P w=.ok (.value c) w)∧K (Qa e o.dst c) w
  | none=>doE P o e w fun v w'=>L ph w'∧K (Qa e o.dst v) w'
 else K (Qa e o.dst undef) w
variable {cst:Nat→Option Bool} {L:Bool→World→Prop} {M:Nat} {Q:Env→World→Prop}
theorem ces_move {j:Nat} {oi oj:Oper} (ap:Bq ops oi oj) {u:Value} {p1 p2:Bool} {K1 K2:Env→World→Prop} {e:Env} {w:World} (hp:cst j=none→p1=p2) (hk:∀ v w',K1 (Qa (Qa e oi.dst u) oj.dst v) w'→K2 (Qa e oj.dst v) w') (h:CES P cst L ops j oj p1 K1 (Qa e oi.dst u) w):CES P cst L ops j oj p2 K2 e w:=by
 unfold CES at h ⊢
 rw [Kn ap.cj,Hh ap.sj ap.cj] at h
 by_cases hw:Region.wanted oj (yieldE ops e)=true
 ·rw [if_pos hw] at h ⊢
  cases hl:cst j with
  | some b=>
   rw [hl] at h
   obtain ⟨c,h1,h2⟩:=h
   exact ⟨c,h1,hk _ _ h2⟩
  | none=>
   rw [hl] at h
   rw [← hp hl]
   exact Jj ((Xl ap.sj ap.cj).1 h) fun v w' h2=>⟨h2.1,hk _ _ h2.2⟩
 ·rw [if_neg hw] at h ⊢
  exact hk _ _ h
def Ya (late early:List Nat) (k:Nat):Option Bool:=bif late.contains k then some false else bif early.contains k then some true else none
end
theorem LTg.weak {V U:List Nat} {g0 g:Gh} {w0 w:World} (h:LTg V g0 w0 g w) (hu:U.all (fun u=>V.contains u)=true):LTg U g0 w0 g w:=
 ⟨h.1,fun b hb hc=>h.2 b hb (by rw [List.all_eq_true] at hu; exact hu _ (by simpa using hc))⟩
theorem LTw.weak {V U:List Nat} {g0:Gh} {w0 w:World} (h:LTw V g0 w0 w) (hu:U.all (fun u=>V.contains u)=true):LTw U g0 w0 w:=let ⟨g,h⟩:=h; ⟨g,h.weak hu⟩
section
variable {P:Program} {ops:Array Oper} {ls es V U:List Nat} {M:Nat} {g0:Gh} {w0:World} {Q:Env→World→Prop} {i:Nat} {l:List Nat} {e:Env} {w:World} {op:Op} {ty:TypeId} {pos:String} {af:Array Edge} {gd:Option (Nat × Bool)} {d:Option Tmp}
end
section
variable {α β γ:Type} [GoT α] [GoT γ] {A:Ow α} {E:Ow γ} {P:Program} {x:Operand} {i b b1 off:Nat} {t t2:TypeId} {a:α} {s:A.S}
end
end Go.Proofs.Ytmpjooneiaiffaa
/- A part cut out of an own slice, in place; a slice that an own variable shares. No program is named here. -/
namespace Go.Proofs.Ytmpjooneiaiffaa
open Go.RowKit
section
variable {α:Type} [GoT α] {m:Nat→Nat} {w:World}
theorem Qb.take : ∀ {xs : List α} {cs : List Value} (n : Nat), Qb m w xs cs → Qb m w (xs.take n) (cs.take (n * GoT.k α))
 | [],_,n,h=>by rw [show _=[] from h]; simp; exact rfl
 | _ :: _,_,0,_=>by simp; exact rfl
 | _ :: _,_,n + 1,⟨c1,c2,he,h1,h2⟩=>by
  subst he
  have hl:=GoT.len h1
  have e1:(n + 1) * GoT.k α=c1.length + n * GoT.k α:=by rw [Nat.add_mul,hl]; omega
  rw [List.take_succ_cons,e1,List.take_append,List.take_of_length_le (Nat.le_add_right _ _),Nat.add_sub_cancel_left]
  exact ⟨_,_,rfl,h1,h2.take n⟩
theorem Qb.drop : ∀ {xs : List α} {cs : List Value} (n : Nat), Qb m w xs cs → Qb m w (xs.drop n) (cs.drop (n * GoT.k α))
 | [],_,n,h=>by rw [show _=[] from h]; simp; exact rfl
 | _ :: _,_,0,h=>by simpa using h
 | _ :: _,_,n + 1,⟨c1,c2,he,h1,h2⟩=>by
  subst he
  have hl:=GoT.len h1
  have e1:(n + 1) * GoT.k α=c1.length + n * GoT.k α:=by rw [Nat.add_mul,hl]; omega
  rw [List.drop_succ_cons,e1,List.drop_append,List.drop_of_length_le (Nat.le_add_right _ _),List.nil_append,Nat.add_sub_cancel_left]
  exact h2.drop n
end
section
variable {P:Program} {e:Env} {w:World} {g:Gh} {K:Value→World→Prop} {x y z:Operand}
end
end Go.Proofs.Ytmpjooneiaiffaa
