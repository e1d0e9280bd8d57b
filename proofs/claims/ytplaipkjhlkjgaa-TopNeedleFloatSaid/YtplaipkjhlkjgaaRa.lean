/- A machine of plain data that runs Go's code in the order of its text: its memory, and how it lies in the model's. No program is named here. -/
import Derived.Test.YtplaipkjhlkjgaaLex
import Derived.Test.YtplaipkjhlkjgaaIter
namespace Go.Proofs.Ytplaipkjhlkjgaa
noncomputable section
open Go.RowKit

/-! ### Tries -/
inductive Tr (α : Type) where
 | nil
 | nd (l:Tr α) (v:Option α) (r:Tr α)
section
variable {α:Type}
def Tr.get (t:Tr α):Nat→Option α:=Tr.rec (motive:=fun _=>Nat→Option α) (fun _=>none) (fun _ v _ gl gr k=>Nat.rec (motive:=fun _=>Option α) v (fun m _=>Nat.rec (motive:=fun _=>Option α) (gl (Nat.div m (nat_lit 2))) (fun _ _=>gr (Nat.div m (nat_lit 2))) (Nat.mod m (nat_lit 2))) k) t
def Tr.path (n:Nat):Nat→Option α→Tr α:=Nat.rec (motive:=fun _=>Nat→Option α→Tr α) (fun _ _=>.nil) (fun _ ih k x=>Nat.rec (motive:=fun _=>Tr α) (.nd .nil x .nil) (fun m _=>Nat.rec (motive:=fun _=>Tr α) (.nd (ih (Nat.div m (nat_lit 2)) x) none .nil) (fun _ _=>.nd .nil none (ih (Nat.div m (nat_lit 2)) x)) (Nat.mod m (nat_lit 2))) k) n
def Tr.set (t : Tr α) : Nat → Option α → Tr α := Tr.rec (motive := fun _ => Nat → Option α → Tr α) (fun k x => Tr.path (nat_lit 41) k x)
 (fun l v r sl sr k x=>Nat.rec (motive:=fun _=>Tr α) (.nd l x r) (fun m _=>Nat.rec (motive:=fun _=>Tr α) (.nd (sl (Nat.div m (nat_lit 2)) x) v r) (fun _ _=>.nd l v (sr (Nat.div m (nat_lit 2)) x)) (Nat.mod m (nat_lit 2))) k) t
theorem mod_rec {β:Type} (m:Nat) (x:β) (y:β):Nat.rec (motive:=fun _=>β) x (fun _ _=>y) (Nat.mod m 2)=if m % 2=0 then x else y:=by
 show Nat.rec (motive:=fun _=>β) x (fun _ _=>y) (m % 2)=_
 cases m % 2 with
 | zero=>rfl
 | succ n=>simp
theorem Tr.get_nd0 (l r:Tr α) (v:Option α):(Tr.nd l v r).get 0=v:=rfl
theorem Tr.get_nd1 (l r:Tr α) (v:Option α) (m:Nat):(Tr.nd l v r).get (m + 1)=if m % 2=0 then l.get (m / 2) else r.get (m / 2):=mod_rec m _ _
theorem Tr.get_nil (k:Nat):(Tr.nil:Tr α).get k=none:=rfl
theorem Tr.set_nd0 (l r:Tr α) (v x:Option α):(Tr.nd l v r).set 0 x=.nd l x r:=rfl
theorem Tr.set_nd1 (l r:Tr α) (v x:Option α) (m:Nat):(Tr.nd l v r).set (m + 1) x=if m % 2=0 then .nd (l.set (m / 2) x) v r else .nd l v (r.set (m / 2) x):=mod_rec m _ _
theorem Tr.path0 (n:Nat) (x:Option α):Tr.path (n + 1) 0 x=.nd .nil x .nil:=rfl
theorem Tr.path1 (n:Nat) (x:Option α) (m:Nat):Tr.path (n + 1) (m + 1) x=if m % 2=0 then .nd (Tr.path n (m / 2) x) none .nil else .nd .nil none (Tr.path n (m / 2) x):=mod_rec m _ _
theorem Ft (a b:Nat):Nat.beq a b=decide (a=b):=by
 by_cases h:a=b
 ·subst h; simp
 ·have:Nat.beq a b=false:=by
   cases hb:Nat.beq a b
   ·rfl
   ·exact absurd (Nat.eq_of_beq_eq_true hb) h
  simp [this,h]
theorem Tr.get_path (x:Option α):∀ (n k j:Nat),k < 2 ^ n→(Tr.path (n + 1) k x).get j=if j=k then x else none:=by
 intro n
 induction n with
 | zero=>
  intro k j h
  have h0:k=0:=by simpa using h
  subst h0
  rw [Tr.path0]
  cases j with
  | zero=>rfl
  | succ j=>simp [Tr.get_nd1,Tr.get_nil]
 | succ n ih=>
  intro k j h
  cases k with
  | zero=>
   rw [Tr.path0]
   cases j with
   | zero=>rfl
   | succ j=>simp [Tr.get_nd1,Tr.get_nil]
  | succ k=>
   have hk2:k / 2 < 2 ^ n:=by rw [Nat.pow_succ] at h; omega
   have key:=fun j=>ih (k / 2) j hk2
   rw [Tr.path1]
   by_cases hk:k % 2=0
   ·rw [if_pos hk]
    cases j with
    | zero=>rw [Tr.get_nd0,if_neg (by omega)]
    | succ j=>
     rw [Tr.get_nd1,key,Tr.get_nil]
     by_cases hj:j % 2=0
     ·rw [if_pos hj]; have : (j / 2 = k / 2) ↔ (j + 1 = k + 1) := by omega
      simp only [this]
     ·rw [if_neg hj,if_neg (by omega)]
   ·rw [if_neg hk]
    cases j with
    | zero=>rw [Tr.get_nd0,if_neg (by omega)]
    | succ j=>
     rw [Tr.get_nd1,key,Tr.get_nil]
     by_cases hj:j % 2=0
     ·rw [if_pos hj,if_neg (by omega)]
     ·rw [if_neg hj]; have : (j / 2 = k / 2) ↔ (j + 1 = k + 1) := by omega
      simp only [this]
theorem Tr.get_set (x:Option α):∀ (t:Tr α) (k j:Nat),k < 2 ^ 40→(Tr.set t k x).get j=if j=k then x else t.get j:=by
 intro t
 induction t with
 | nil=>intro k j h; exact Tr.get_path x 40 k j h
 | nd l v r ihl ihr=>
  intro k j h
  cases k with
  | zero=>
   rw [Tr.set_nd0]
   cases j with
   | zero=>rfl
   | succ j=>rw [Tr.get_nd1,Tr.get_nd1,if_neg (show ¬ (j + 1=0) by omega)]
  | succ k=>
   have hk2:k / 2 < 2 ^ 40:=by omega
   rw [Tr.set_nd1]
   by_cases hk:k % 2=0
   ·rw [if_pos hk]
    cases j with
    | zero=>rw [Tr.get_nd0,Tr.get_nd0,if_neg (by omega)]
    | succ j=>
     rw [Tr.get_nd1,Tr.get_nd1,ihl _ _ hk2]
     by_cases hj:j % 2=0
     ·rw [if_pos hj, if_pos hj]; have : (j / 2 = k / 2) ↔ (j + 1 = k + 1) := by omega
      simp only [this]
     ·rw [if_neg hj,if_neg hj,if_neg (by omega)]
   ·rw [if_neg hk]
    cases j with
    | zero=>rw [Tr.get_nd0,Tr.get_nd0,if_neg (by omega)]
    | succ j=>
     rw [Tr.get_nd1,Tr.get_nd1,ihr _ _ hk2]
     by_cases hj:j % 2=0
     ·rw [if_pos hj,if_pos hj,if_neg (by omega)]
     ·rw [if_neg hj, if_neg hj]; have : (j / 2 = k / 2) ↔ (j + 1 = k + 1) := by omega
      simp only [this]
structure Mp (α : Type) where
 t:Tr α
 big:List (Nat × Option α)
def lookB : List (Nat × Option α) → Nat → Option α
 | [],_=>none
 | (j,x) :: l,k=>bif Nat.beq k j then x else lookB l k
def Mp.get (m:Mp α) (k:Nat):Option α:=bif Nat.ble k (nat_lit 1099511627775) then m.t.get k else lookB m.big k
def Mp.set (m:Mp α) (k:Nat) (x:Option α):Mp α:=bif Nat.ble k (nat_lit 1099511627775) then { t:=Tr.set m.t k x,big:=m.big } else { t:=m.t,big:=(k,x) :: m.big }
def Mp.nil:Mp α:=⟨.nil,[]⟩
theorem Mp.get_set (m:Mp α) (k j:Nat) (x:Option α):(m.set k x).get j=if j=k then x else m.get j:=by
 unfold Mp.set
 cases hk:Nat.ble k 1099511627775 with
 | true=>
  have h1:k < 2 ^ 40:=by have:=Nat.le_of_ble_eq_true hk; omega
  simp only [cond_true,Mp.get,Tr.get_set x m.t k j h1]
  cases hj:Nat.ble j 1099511627775 with
  | true=>rfl
  | false=>
   have hne:¬ j=k:=fun e=>by rw [e,hk] at hj; cases hj
   simp [hne]
 | false=>
  simp only [cond_false,Mp.get]
  cases hj:Nat.ble j 1099511627775 with
  | true=>simp only [cond_true]; rw [if_neg (fun e=>by rw [e,hk] at hj; cases hj)]
  | false=>simp only [cond_false,lookB,Ft]; by_cases e:j=k <;> simp [e]
theorem Mp.get_nil (k:Nat):(Mp.nil:Mp α).get k=none:=by
 unfold Mp.get Mp.nil; cases Nat.ble k 1099511627775 <;> rfl
end

/-! ### Lists side by side -/
inductive All2 {α β : Type} (R : α → β → Prop) : List α → List β → Prop
 | nil:All2 R [] []
 | cons {a:α} {b:β} {xs:List α} {bs:List β} (h:R a b) (t:All2 R xs bs):All2 R (a :: xs) (b :: bs)
section
variable {α β:Type} {R R':α→β→Prop}
theorem All2.mono (hR:∀ a b,R a b→R' a b) {xs:List α} {bs:List β} (h:All2 R xs bs):All2 R' xs bs:=by
 induction h with
 | nil=>exact .nil
 | cons h _ ih=>exact .cons (hR _ _ h) ih
theorem All2.len {xs:List α} {bs:List β} (h:All2 R xs bs):xs.length=bs.length:=by
 induction h with
 | nil=>rfl
 | cons _ _ ih=>simp [ih]
theorem All2.append {xs xs':List α} {bs bs':List β} (h:All2 R xs bs) (k:All2 R xs' bs'):All2 R (xs ++ xs') (bs ++ bs'):=by
 induction h with
 | nil=>exact k
 | cons h _ ih=>exact .cons h ih
theorem All2.drop {xs:List α} {bs:List β} (h:All2 R xs bs):∀ n,All2 R (xs.drop n) (bs.drop n):=by
 induction h with
 | nil=>intro n; simp; exact .nil
 | cons h t ih=>intro n; cases n with | zero=>exact .cons h t | succ n=>simpa using ih n
theorem All2.take {xs:List α} {bs:List β} (h:All2 R xs bs):∀ n,All2 R (xs.take n) (bs.take n):=by
 induction h with
 | nil=>intro n; simp; exact .nil
 | cons h t ih=>intro n; cases n with | zero=>simp; exact .nil | succ n=>simpa using .cons h (ih n)
theorem All2.get {xs:List α} {bs:List β} (h:All2 R xs bs) {i:Nat} {a:α} (hi:xs[i]?=some a):∃ b,bs[i]?=some b∧R a b:=by
 induction h generalizing i with
 | nil=>simp at hi
 | cons h t ih=>cases i with | zero=>simp at hi; subst hi; exact ⟨_,rfl,h⟩ | succ i=>simp at hi; simpa using ih hi
theorem All2.mem {xs:List α} {bs:List β} (h:All2 R xs bs) {b:β} (hb:b ∈ bs):∃ a ∈ xs,R a b:=by
 induction h with
 | nil=>cases hb
 | cons h t ih=>
  rcases List.mem_cons.1 hb with rfl | hb
  ·exact ⟨_,by simp,h⟩
  ·obtain ⟨a,ha,hr⟩:=ih hb; exact ⟨a,by simp [ha],hr⟩
end

/-! ### Values -/
inductive C where
 | k (v:Value)
 | p (b off:Nat)
 | s (b off len:Nat) (cap:Option Nat) (z:Nat)
 | e (full:Bool)
 | m (b:Nat)
 | f (fn:FuncId) (caps:List (Nat × Nat))
 | y (l:Nat)
inductive AV where
 | v (agg:Bool) (cs:List C)
 | t (xs:List (Bool × List C))
 | u
abbrev Gv:=Mp AV
def Gv.at (e:Gv) (t:Nat):AV:=(Mp.get e t).getD .u
inductive Blk where
 | cells (cs:List C) (el:TypeId)
 | map (es:List (Value × Bool × List C))
 | mapd (es:List (Value × Bool × List C))
 | iter (m:Option Nat) (since:Nat) (seen:List Nat) (last:Nat)
 | loop (N:Nat) (env:Gv) (ps:List Tmp) (asg body:Code) (st:LoopState) (pend:Option Code) (dfr:Nat)
 | dfr
/-! ### What is asked of code, once -/
def mask (acc:List Nat) (o:Oper):Nat:=(Gs o).foldl (fun s k=>s ||| 2 ^ k ||| acc.getD k 0) 0
def Rg : List Oper → List Nat → List Nat
 | [],_=>[]
 | o :: l,acc=>mask acc o :: Rg l (acc ++ [mask acc o])
def Ck (ops:List Oper):List Nat:=Rg ops []
def okD (ops:Array Oper):Bool:=
 let ps:=Ck ops.toList
 (List.range ops.size).all fun j=>!Kb (Tg ops j) && (Gs (Tg ops j)).all (fun k=>Nat.blt k j) && (List.range j).all fun i=>(ps.getD j 0).testBit i || Ha ops (Tg ops i) (Tg ops j)
def okC (N : Nat) : Code → Bool
 | .seq a b=>okC N a && okC N b
 | .cond _ a b=>okC N a && okC N b
 | .block _ a=>okC N a
 | .loop a=>okC N a
 | .rangeFunc _ ps asg body=>okC N asg && okC N body && ps.toList.all (fun t=>Nat.blt t N)
 | .region _ ops draw=>ops.toList.all (fun o=>okO N o.dst && Xd o.op) && (!draw || okD ops)
 | _=>true
abbrev Rn:=Nat→Option (Nat × Nat)
structure Gro (w w' : World) : Prop where
 os:w'.os=w.os
 tape:w'.tape=w.tape
 output:w'.output=w.output
 size:w.heap.size ≤ w'.heap.size
 cells:∀ (x:Nat) (cs:Array Value) (el:TypeId) (fz:Nat × Nat),w.heap[x]?=some (.cells cs el fz)→∃ cs',w'.heap[x]?=some (.cells cs' el fz)∧cs'.size=cs.size
theorem Gro.refl (w:World):Gro w w:=⟨rfl,rfl,rfl,Nat.le_refl _,fun _ cs _ _ h=>⟨cs,h,rfl⟩⟩
theorem Gro.trans {a b c:World} (h:Gro a b) (k:Gro b c):Gro a c:=⟨k.os.trans h.os,k.tape.trans h.tape,k.output.trans h.output,Nat.le_trans h.size k.size,fun x cs el fz hx=>by
 obtain ⟨cs',h1,h2⟩:=h.cells x cs el fz hx
 obtain ⟨cs'',h3,h4⟩:=k.cells x cs' el fz h1
 exact ⟨cs'',h3,h4.trans h2⟩⟩
def Jf (ρ ρ':Rn):Prop:=∀ b y,ρ b=some y→ρ' b=some y
theorem Jf.refl (ρ:Rn):Jf ρ ρ:=fun _ _ h=>h
theorem Jf.trans {a b c:Rn} (h:Jf a b) (k:Jf b c):Jf a c:=fun _ _ hb=>k _ _ (h _ _ hb)
def PR (ρ:Rn) (p:Nat × Nat) (v:Value):Prop:=∃ y,ρ p.1=some y∧v=.pointer (some ⟨y.1,y.2 + p.2,none⟩)
def CR (ρ : Rn) (w : World) : C → Value → Prop
 | .k x,v=>v=x∧x.oneCell'=true
 | .p b off,v=>PR ρ (b,off) v
 | .s b off len cap z,v=>∃ y c,ρ b=some y∧v=.slice (some ⟨y.1,y.2 + off,none⟩) len c∧len ≤ c∧c ≤ maxLen∧(∀ c0,cap=some c0→c=c0)∧∃ cs el,w.heap[y.1]?=some (.cells cs el (0,0))∧y.2 + off + c * z ≤ cs.size
 | .e full,v=>∃ a c,v=.slice (some a) 0 c∧(full=true→c=0)
 | .m b,v=>∃ y,ρ b=some y∧v=.map (some y.1)
 | .f fn caps,v=>∃ vs:List Value,v=.func (.func fn) #[] vs.toArray∧All2 (PR ρ) caps vs
 | .y l,v=>∃ y,ρ l=some y∧v=.func (.yield y.1) #[] #[]
section
variable {ρ ρ':Rn} {w w':World}
theorem PR.mono (hr:Jf ρ ρ') {p:Nat × Nat} {v:Value} (h:PR ρ p v):PR ρ' p v:=let ⟨y,h1,h2⟩:=h; ⟨y,hr _ _ h1,h2⟩
theorem CR.mono (hr:Jf ρ ρ') (hg:Gro w w') {c:C} {v:Value} (h:CR ρ w c v):CR ρ' w' c v:=by
 cases c with
 | k x=>exact h
 | p b off=>exact PR.mono hr h
 | s b off len cap z=>
  obtain ⟨y,c,h1,h2,h3,h4,h5,cs,el,h6,h7⟩:=h
  obtain ⟨cs',h8,h9⟩:=hg.cells _ _ _ _ h6
  exact ⟨y,c,hr _ _ h1,h2,h3,h4,h5,cs',el,h8,by rw [h9]; exact h7⟩
 | e full=>exact h
 | m b=>obtain ⟨y,h1,h2⟩:=h; exact ⟨y,hr _ _ h1,h2⟩
 | f fn caps=>obtain ⟨vs,h1,h2⟩:=h; exact ⟨vs,h1,h2.mono fun _ _=>PR.mono hr⟩
 | y l=>obtain ⟨y,h1,h2⟩:=h; exact ⟨y,hr _ _ h1,h2⟩
theorem CR.one {c:C} {v:Value} (h:CR ρ w c v):v.oneCell'=true:=by
 cases c with
 | k x=>rw [h.1]; exact h.2
 | p b off=>obtain ⟨y,_,rfl⟩:=h; rfl
 | s b off len cap z=>obtain ⟨y,c,_,rfl,_⟩:=h; rfl
 | e full=>obtain ⟨a,c,rfl,_⟩:=h; rfl
 | m b=>obtain ⟨y,_,rfl⟩:=h; rfl
 | f fn caps=>obtain ⟨y,rfl,_⟩:=h; rfl
 | y l=>obtain ⟨y,_,rfl⟩:=h; rfl
abbrev CsR (ρ:Rn) (w:World):=All2 (CR ρ w)
theorem CsR.mono (hr:Jf ρ ρ') (hg:Gro w w') {cs:List C} {vs:List Value} (h:CsR ρ w cs vs):CsR ρ' w' cs vs:=All2.mono (fun _ _=>CR.mono hr hg) h
theorem CsR.one {cs:List C} {vs:List Value} (h:CsR ρ w cs vs):∀ v ∈ vs,v.oneCell'=true:=fun _ hv=>let ⟨_,_,hr⟩:=h.mem hv; hr.one
def V1 (ρ:Rn) (w:World) (p:Bool × List C) (v:Value):Prop:=∃ vs,v=toV p.1 vs∧CsR ρ w p.2 vs∧(p.1=false→vs.length=1)
def VR (ρ : Rn) (w : World) : AV → Value → Prop
 | .v g cs,v=>V1 ρ w (g,cs) v
 | .t xs,v=>∃ vs:List Value,v=.tuple vs.toArray∧All2 (V1 ρ w) xs vs
 | .u,v=>v=undef
theorem V1.mono (hr:Jf ρ ρ') (hg:Gro w w') {p:Bool × List C} {v:Value} (h:V1 ρ w p v):V1 ρ' w' p v:=let ⟨vs,h1,h2,h3⟩:=h; ⟨vs,h1,CsR.mono hr hg h2,h3⟩
theorem VR.mono (hr:Jf ρ ρ') (hg:Gro w w') {a:AV} {v:Value} (h:VR ρ w a v):VR ρ' w' a v:=by
 cases a with
 | v g cs=>exact V1.mono hr hg h
 | t xs=>obtain ⟨vs,h1,h2⟩:=h; exact ⟨vs,h1,h2.mono fun _ _=>V1.mono hr hg⟩
 | u=>exact h
theorem V1.cells {p:Bool × List C} {v:Value} (h:V1 ρ w p v):CsR ρ w p.2 v.cells.toList:=by
 obtain ⟨vs,rfl,h1,h2⟩:=h
 cases hp:p.1 with
 | true=>simpa [toV,Value.cells] using h1
 | false=>
  have hl:=h2 hp
  match vs,hl with
  | [x],_=>
   have h0:=h1.one x (by simp)
   simp only [toV,cond_false,List.headD_cons,Hc h0]
   exact h1
theorem V1.one {c:C} {v:Value} (h:V1 ρ w (false,[c]) v):CR ρ w c v:=by
 obtain ⟨vs,rfl,h1,h2⟩:=h
 cases h1 with | cons h t=>cases t; exact h
theorem V1.of {c:C} {v:Value} (h:CR ρ w c v):V1 ρ w (false,[c]) v:=⟨[v],rfl,.cons h .nil,fun _=>rfl⟩
theorem V1.agg {cs:List C} {vs:List Value} (h:CsR ρ w cs vs):V1 ρ w (true,cs) (.agg vs.toArray):=⟨vs,rfl,h,fun h=>by cases h⟩
end

/-! ### Memory -/
structure Cx where
 see:Nat→Bool
 wr:Nat→Bool
 cut:Nat
def Cx.vis (cx:Cx) (b:Nat):Bool:=Nat.ble cx.cut b || cx.see b
def Cx.mod (cx:Cx) (b:Nat):Bool:=Nat.ble cx.cut b || (cx.see b && cx.wr b)
theorem Cx.mod_vis {cx:Cx} {b:Nat} (h:cx.mod b=true):cx.vis b=true:=by
 unfold Cx.mod at h; unfold Cx.vis
 cases h1:Nat.ble cx.cut b <;> simp_all
structure St where
 n:Nat
 h:Mp Blk
 log:List Nat
def St.get (S:St) (b:Nat):Option Blk:=S.h.get b
def St.look (cx:Cx) (S:St) (b:Nat):Option Blk:=bif cx.vis b then S.get b else none
def St.new (S:St) (B:Blk):St:={ n:=S.n + 1,h:=S.h.set S.n (some B),log:=S.log }
def St.wrote (cx:Cx) (S:St) (b:Nat):List Nat:=bif Nat.blt b cx.cut && !(S.log.contains b) then b :: S.log else S.log
def St.put (cx:Cx) (S:St) (b:Nat) (B:Option Blk):Option St:=bif cx.mod b then some { n:=S.n,h:=S.h.set b B,log:=S.wrote cx b } else none
theorem Re {cx:Cx} {S:St} {b:Nat} {B:Blk} (h:S.look cx b=some B):cx.vis b=true∧S.get b=some B:=by
 unfold St.look at h; cases hv:cx.vis b <;> simp_all
theorem Hu (S:St) (B:Blk) (b:Nat):(S.new B).get b=if b=S.n then some B else S.get b:=Mp.get_set _ _ _ _
def Xb (ρ:Rn) (w:World) (env:Gv) (e:Env):Prop:=∀ t,VR ρ w (env.at t) (e t)
def Oj (ρ:Rn) (w:World) (i:Nat) (p:Value × Bool × List C) (e:MapEntry):Prop:=e.key=p.1∧V1 ρ w p.2 e.val∧e.born=i
def BR (ρ : Rn) (w : World) : Blk → Nat × Nat → Prop
 | .cells cs el,y=>∃ (carr:Array Value) (vs:List Value),w.heap[y.1]?=some (.cells carr el (0,0))∧CsR ρ w cs vs∧∀ (j:Nat) (v:Value),vs[j]?=some v→carr[y.2 + j]?=some v
 | .map es,y=>∃ arr:Array MapEntry,w.heap[y.1]?=some (.map arr arr.size)∧arr.size=es.length∧∀ (i:Nat) (p:Value × Bool × List C) (e:MapEntry),es[i]?=some p→arr[i]?=some e→Oj ρ w i p e
 | .mapd es,y=>∃ (arr:Array MapEntry) (clock:Nat),w.heap[y.1]?=some (.map arr clock)∧arr.size=es.length∧∀ (i:Nat) (p:Value × Bool × List C) (e:MapEntry),es[i]?=some p→arr[i]?=some e→e.key=p.1∧V1 ρ w p.2 e.val
 | .iter m since seen last,y=>∃ mr,w.heap[y.1]?=some (.mapIter mr since seen.toArray last)∧y.2=0∧(match m with | none=>mr=none | some b=>∃ z,ρ b=some z∧mr=some z.1)
 | .loop N env ps asg body st pend dfr, y => ∃ (tmps : Array Value) (d : Nat) (fn : FuncId), w.heap[y.1]? = some (.loop { state := st, pending := pend, fn := fn, tmps := tmps, params := ps.toArray, assign := asg, body := body, defers := d }) ∧
   tmps.size=N∧(∀ t,VR ρ w (env.at t) (tmps.getD t undef))∧(∃ z,ρ dfr=some z∧z.1=d)∧okC N asg=true∧okC N body=true∧ps.all (fun t=>Nat.blt t N)=true
 | .dfr,y=>w.heap[y.1]?=some (.deferred (some []))
theorem BR.mono {ρ ρ':Rn} {w w':World} {B:Blk} {y:Nat × Nat} (h:BR ρ w B y) (hr:Jf ρ ρ') (hg:Gro w w') (hy:w'.heap[y.1]?=w.heap[y.1]?):BR ρ' w' B y:=by
 cases B with
 | cells cs el=>obtain ⟨carr,vs,h1,h2,h3⟩:=h; exact ⟨carr,vs,hy.trans h1,CsR.mono hr hg h2,h3⟩
 | map es=>obtain ⟨arr,h1,h2,h3⟩:=h; exact ⟨arr,hy.trans h1,h2,fun i p e hp he=>let ⟨a,b,c⟩:=h3 i p e hp he; ⟨a,V1.mono hr hg b,c⟩⟩
 | mapd es=>obtain ⟨arr,clock,h1,h2,h3⟩:=h; exact ⟨arr,clock,hy.trans h1,h2,fun i p e hp he=>let ⟨a,b⟩:=h3 i p e hp he; ⟨a,V1.mono hr hg b⟩⟩
 | iter m since seen last=>
  obtain ⟨mr,h1,h0,h2⟩:=h
  refine ⟨mr,hy.trans h1,h0,?_⟩
  cases m with
  | none=>exact h2
  | some b=>obtain ⟨z,h3,h4⟩:=h2; exact ⟨z,hr _ _ h3,h4⟩
 | loop N env ps asg body st pend dfr=>obtain ⟨tmps,d,fn,h1,h2,h3,⟨z,h4,h6⟩,h5⟩:=h; exact ⟨tmps,d,fn,hy.trans h1,h2,fun t=>VR.mono hr hg (h3 t),⟨z,hr _ _ h4,h6⟩,h5⟩
 | dfr=>exact hy.trans h
theorem BR.lt {ρ:Rn} {w:World} {B:Blk} {y:Nat × Nat} (h:BR ρ w B y):y.1 < w.heap.size:=by
 cases B with
 | cells cs el=>obtain ⟨carr,vs,h1,_⟩:=h; exact Gg h1
 | map es=>obtain ⟨arr,h1,_⟩:=h; exact Gg h1
 | mapd es=>obtain ⟨arr,clock,h1,_⟩:=h; exact Gg h1
 | iter m since seen last=>obtain ⟨mr,h1,_⟩:=h; exact Gg h1
 | loop N env ps asg body st pend dfr=>obtain ⟨tmps,d,fn,h1,_⟩:=h; exact Gg h1
 | dfr=>exact Gg h

structure Sim (cx : Cx) (base : Nat) (ρ : Rn) (S : St) (w : World) : Prop where
 blk:∀ b B,cx.vis b=true→S.get b=some B→∃ y,ρ b=some y∧BR ρ w B y
 inj:∀ b b' y y',cx.vis b=true→cx.vis b'=true→S.get b ≠ none→S.get b' ≠ none→ρ b=some y→ρ b'=some y'→y.1=y'.1→b=b'
 rng:∀ b y,ρ b=some y→base ≤ y.1∧y.1 < w.heap.size
 base:base ≤ w.heap.size
 bnd:∀ b,S.get b ≠ none→b < S.n
 cut:cx.cut ≤ S.n
structure Evo (cx : Cx) (ρ : Rn) (S : St) (w : World) (ρ' : Rn) (S' : St) (w' : World) : Prop where
 n:S.n ≤ S'.n
 log:∀ b ∈ S.log,b ∈ S'.log
 wr:∀ b ∈ S'.log,b ∈ S.log ∨ (b < cx.cut∧cx.see b=true∧cx.wr b=true)
 keep:∀ b,b < cx.cut→b ∉ S'.log→S'.get b=S.get b
 dead:∀ b,b < S.n→S.get b=none→S'.get b=none
 le:Jf ρ ρ'
 dom:∀ b,ρ b=none→ρ' b ≠ none→S.n ≤ b∧b < S'.n
 gro:Gro w w'
 frame:∀ x,x < w.heap.size→w'.heap[x]?=w.heap[x]? ∨ ∃ b y,ρ' b=some y∧y.1=x∧(b ∈ S'.log∧b < cx.cut ∨ cx.cut ≤ b∧b < S'.n)
 fresh:∀ b y,ρ b=none→ρ' b=some y→w.heap.size ≤ y.1 ∨ ∃ c z,ρ c=some z∧z.1=y.1∧S'.get c=none∧(c ∈ S'.log∧c < cx.cut ∨ cx.cut ≤ c∧c < S.n)
section
variable {cx:Cx} {base:Nat} {ρ ρ' ρ'':Rn} {S S' S'':St} {w w' w'':World}
theorem Evo.refl (hcut:cx.cut ≤ S.n):Evo cx ρ S w ρ S w:=by
 have:=hcut
 exact ⟨Nat.le_refl _,fun _ h=>h,fun _ h=>.inl h,fun _ _ _=>rfl,fun _ _ h=>h,Jf.refl _,fun b h k=>absurd h k,Gro.refl _,fun _ _=>.inl rfl,fun b y h k=>by rw [h] at k; cases k⟩
theorem Evo.trans (hcut:cx.cut ≤ S.n) (h:Evo cx ρ S w ρ' S' w') (k:Evo cx ρ' S' w' ρ'' S'' w'') (hf:∀ b,S.n ≤ b→b < S''.n→ρ b=none):Evo cx ρ S w ρ'' S'' w'':=by
 have hc':cx.cut ≤ S'.n:=Nat.le_trans hcut h.n
 have dom':∀ c z,ρ' c=some z→ρ c=none→S.n ≤ c∧c < S'.n:=fun c z h1 h2=>h.dom c h2 (by rw [h1]; simp)
 refine ⟨Nat.le_trans h.n k.n,fun b hb=>k.log b (h.log b hb),fun b hb=>?_,fun b hb hn=>?_,fun b hb hd=>k.dead b (Nat.lt_of_lt_of_le hb h.n) (h.dead b hb hd),h.le.trans k.le,fun b h1 h2=>?_,h.gro.trans k.gro,fun x hx=>?_,fun b y h1 h2=>?_⟩
 ·rcases k.wr b hb with h1 | h1
  ·exact h.wr b h1
  ·exact .inr h1
 ·rw [k.keep b hb hn,h.keep b hb (fun h1=>hn (k.log b h1))]
 ·cases h3 : ρ' b with
  | none=>have:=k.dom b h3 h2; exact ⟨Nat.le_trans h.n this.1,this.2⟩
  | some y=>have:=h.dom b h1 (by rw [h3]; simp); exact ⟨this.1,Nat.lt_of_lt_of_le this.2 k.n⟩
 ·rcases k.frame x (Nat.lt_of_lt_of_le hx h.gro.size) with h1 | ⟨b, y, h1, h2, h3⟩
  ·rcases h.frame x hx with h4 | ⟨b, y, h4, h5, h6⟩
   ·exact .inl (h1.trans h4)
   ·refine .inr ⟨b,y,k.le _ _ h4,h5,h6.imp (fun h7=>⟨k.log b h7.1,h7.2⟩) fun h7=>⟨h7.1,Nat.lt_of_lt_of_le h7.2 k.n⟩⟩
  ·exact .inr ⟨b,y,h1,h2,h3⟩
 ·cases h3 : ρ' b with
  | none=>
   rcases k.fresh b y h3 h2 with h4 | ⟨c,z,h4,h5,h6,h7⟩
   ·exact .inl (Nat.le_trans h.gro.size h4)
   ·cases h8 : ρ c with
    | some z'=>
     have:=h.le _ _ h8; rw [h4] at this; cases this
     refine .inr ⟨c,z,h8,h5,h6,?_⟩
     rcases h7 with h7 | h7
     ·exact .inl h7
     ·right; refine ⟨h7.1, ?_⟩
      rcases Nat.lt_or_ge c S.n with h9 | h9
      ·exact h9
      ·have:=hf c h9 (Nat.lt_of_lt_of_le h7.2 k.n); rw [h8] at this; cases this
    | none=>
     rcases h.fresh c z h8 h4 with h9 | ⟨c',z',h9,h10,h11,h12⟩
     ·exact .inl (by omega)
     ·refine .inr ⟨c', z', h9, by omega, ?_, ?_⟩
      ·refine k.dead c' ?_ h11
       rcases h12 with h12 | h12
       ·exact Nat.lt_of_lt_of_le h12.2 hc'
       ·exact Nat.lt_of_lt_of_le h12.2 h.n
      ·exact h12.imp (fun h13=>⟨k.log _ h13.1,h13.2⟩) (fun h13=>h13)
  | some y'=>
   have:=k.le _ _ h3; rw [h2] at this; cases this
   rcases h.fresh b y h1 h3 with h4 | ⟨c,z,h4,h5,h6,h7⟩
   ·exact .inl h4
   ·refine .inr ⟨c, z, h4, h5, k.dead c ?_ h6, h7.imp (fun h13 => ⟨k.log _ h13.1, h13.2⟩) (fun h13 => h13)⟩
    rcases h7 with h12 | h12
    ·exact Nat.lt_of_lt_of_le h12.2 hc'
    ·exact Nat.lt_of_lt_of_le h12.2 h.n
end
end
end Go.Proofs.Ytplaipkjhlkjgaa
