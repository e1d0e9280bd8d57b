/- The machine of plain data once more, made for the kernel: with continuations; each operation and piece of code is read once. No program is named here. -/
import Derived.Test.YtplaipkjhlkjgaaRy
namespace Go.Proofs.Ytplaipkjhlkjgaa
noncomputable section
open Go.RowKit

/-! ### Ways into a trie -/
inductive Pa where
 | z
 | l (p:Pa)
 | r (p:Pa)
def paF : Nat → Nat → Pa
 | 0,_=>.z
 | n + 1,k=>bif Nat.beq k 0 then .z else bif Nat.beq ((k - 1) % 2) 0 then .l (paF n ((k - 1) / 2)) else .r (paF n ((k - 1) / 2))
def Ie {α : Type} (p : Pa) : Tr α → Option α := Pa.rec (motive := fun _ => Tr α → Option α)
 (fun t=>Tr.rec (motive:=fun _=>Option α) none (fun _ v _ _ _=>v) t)
 (fun _ ih t=>Tr.rec (motive:=fun _=>Option α) none (fun l _ _ _ _=>ih l) t)
 (fun _ ih t=>Tr.rec (motive:=fun _=>Option α) none (fun _ _ r _ _=>ih r) t) p
def pSet {α β : Type} (x : Option α) (p : Pa) : Tr α → (Tr α → β) → β := Pa.rec (motive := fun _ => Tr α → (Tr α → β) → β)
 (fun t k=>Tr.rec (motive:=fun _=>β) (k (.nd .nil x .nil)) (fun l _ r _ _=>k (.nd l x r)) t)
 (fun _ ih t k=>Tr.rec (motive:=fun _=>β) (ih .nil fun t=>k (.nd t none .nil)) (fun l v r _ _=>ih l fun t=>k (.nd t v r)) t)
 (fun _ ih t k=>Tr.rec (motive:=fun _=>β) (ih .nil fun t=>k (.nd .nil none t)) (fun l v r _ _=>ih r fun t=>k (.nd l v t)) t) p
def fPa {β:Type} (p:Pa):(Pa→β)→β:=Pa.rec (motive:=fun _=>(Pa→β)→β) (fun k=>k .z) (fun _ ih k=>ih fun p=>k (.l p)) (fun _ ih k=>ih fun p=>k (.r p)) p
theorem fPa_eq {β : Type} : ∀ (p : Pa) (k : Pa → β), fPa p k = k p
 | .z,_=>rfl
 | .l p,k=>fPa_eq p fun p=>k (.l p)
 | .r p,k=>fPa_eq p fun p=>k (.r p)
theorem pGet_l {α:Type} (p:Pa) (l r:Tr α) (v:Option α):Ie (.l p) (.nd l v r)=Ie p l:=rfl
theorem pGet_r {α:Type} (p:Pa) (l r:Tr α) (v:Option α):Ie (.r p) (.nd l v r)=Ie p r:=rfl
theorem pGet_nil {α:Type} (p:Pa):Ie p (.nil:Tr α)=none:=by cases p <;> rfl
theorem Im (n:Nat):paF (n + 1) 0=.z:=rfl
theorem paF_s (n k:Nat):paF (n + 1) (k + 1)=if k % 2=0 then .l (paF n (k / 2)) else .r (paF n (k / 2)):=by
 show (bif Nat.beq (k + 1) 0 then Pa.z else bif Nat.beq ((k + 1 - 1) % 2) 0 then Pa.l (paF n ((k + 1 - 1) / 2)) else Pa.r (paF n ((k + 1 - 1) / 2)))=_
 simp only [Ft,Nat.add_sub_cancel]
 by_cases h:k % 2=0 <;> simp [h]
theorem pGet_eq {α:Type}:∀ (n:Nat) (k:Nat) (t:Tr α),k < 2 ^ n→Ie (paF (n + 1) k) t=t.get k:=by
 intro n
 induction n with
 | zero=>
  intro k t h
  have h0:k=0:=by simpa using h
  subst h0
  rw [Im]
  cases t <;> rfl
 | succ n ih=>
  intro k t h
  cases k with
  | zero=>rw [Im]; cases t <;> rfl
  | succ k=>
   have hk:k / 2 < 2 ^ n:=by rw [Nat.pow_succ] at h; omega
   rw [paF_s]
   cases t with
   | nil=>rw [pGet_nil]; rfl
   | nd l v r=>
    rw [Tr.get_nd1]
    by_cases hm:k % 2=0
    ·rw [if_pos hm,if_pos hm,pGet_l,ih _ _ hk]
    ·rw [if_neg hm,if_neg hm,pGet_r,ih _ _ hk]
theorem pSet_nil {α β:Type} (x:Option α):∀ (n:Nat) (m k:Nat) (κ:Tr α→β),k < 2 ^ n→n ≤ m→pSet x (paF (n + 1) k) .nil κ=κ (Tr.path (m + 1) k x):=by
 intro n
 induction n with
 | zero=>
  intro m k κ h _
  have h0:k=0:=by simpa using h
  subst h0
  rw [Im,Tr.path0]; rfl
 | succ n ih=>
  intro m k κ h hm
  cases k with
  | zero=>rw [Im,Tr.path0]; rfl
  | succ k=>
   have hk:k / 2 < 2 ^ n:=by rw [Nat.pow_succ] at h; omega
   obtain ⟨m',rfl⟩:∃ m',m=m' + 1:=⟨m - 1,by omega⟩
   rw [paF_s,Tr.path1]
   by_cases hk2:k % 2=0
   ·rw [if_pos hk2, if_pos hk2]
    show pSet x (paF (n + 1) (k / 2)) .nil (fun t=>κ (.nd t none .nil))=_
    rw [ih m' _ _ hk (by omega)]
   ·rw [if_neg hk2, if_neg hk2]
    show pSet x (paF (n + 1) (k / 2)) .nil (fun t=>κ (.nd .nil none t))=_
    rw [ih m' _ _ hk (by omega)]
theorem pSet_eq {α β:Type} (x:Option α):∀ (n:Nat) (k:Nat) (t:Tr α) (κ:Tr α→β),k < 2 ^ n→n ≤ 40→pSet x (paF (n + 1) k) t κ=κ (Tr.set t k x):=by
 intro n
 induction n with
 | zero=>
  intro k t κ h _
  have h0:k=0:=by simpa using h
  subst h0
  rw [Im]
  cases t <;> rfl
 | succ n ih=>
  intro k t κ h hn
  cases t with
  | nil=>exact pSet_nil x (n + 1) 40 k κ h hn
  | nd l v r=>
   cases k with
   | zero=>rw [Im]; rfl
   | succ k=>
    have hk:k / 2 < 2 ^ n:=by rw [Nat.pow_succ] at h; omega
    rw [paF_s,Tr.set_nd1]
    by_cases hk2:k % 2=0
    ·rw [if_pos hk2, if_pos hk2]
     show pSet x (paF (n + 1) (k / 2)) l (fun t=>κ (.nd t v r))=_
     rw [ih _ _ _ hk (by omega)]
    ·rw [if_neg hk2, if_neg hk2]
     show pSet x (paF (n + 1) (k / 2)) r (fun t=>κ (.nd l v t))=_
     rw [ih _ _ _ hk (by omega)]

/-! ### Values -/
def vInt {β : Type} (v : Value) (d : β) (f : IntKind → Int → β) : β := Value.rec (motive_1 := fun _ => β) (motive_2 := fun _ => PUnit) (motive_3 := fun _ => PUnit)
 (fun _=>d) (fun κ n=>f κ n) (fun _ _=>d) (fun _ _ _=>d) (fun _=>d) (fun _=>d) (fun _ _ _=>d) (fun _=>d) (fun _=>d) (fun _ _ _ _ _=>d) d (fun _ _ _=>d) d (fun _ _=>d) (fun _ _=>d) (fun _ _=>PUnit.unit) PUnit.unit (fun _ _ _ _=>PUnit.unit) v
def vBool {β : Type} (v : Value) (d : β) (f : Bool → β) : β := Value.rec (motive_1 := fun _ => β) (motive_2 := fun _ => PUnit) (motive_3 := fun _ => PUnit)
 (fun b=>f b) (fun _ _=>d) (fun _ _=>d) (fun _ _ _=>d) (fun _=>d) (fun _=>d) (fun _ _ _=>d) (fun _=>d) (fun _=>d) (fun _ _ _ _ _=>d) d (fun _ _ _=>d) d (fun _ _=>d) (fun _ _=>d) (fun _ _=>PUnit.unit) PUnit.unit (fun _ _ _ _=>PUnit.unit) v
def aOne {β:Type} (a:AV) (d:β) (f:Value→β):β:=AV.rec (motive:=fun _=>β) (fun g cs=>Bool.rec (motive:=fun _=>β) (List.rec (motive:=fun _=>β) d (fun c cs' _=>List.rec (motive:=fun _=>β) (C.rec (motive:=fun _=>β) (fun v=>f v) (fun _ _=>d) (fun _ _ _ _ _=>d) (fun _=>d) (fun _=>d) (fun _ _=>d) (fun _=>d) c) (fun _ _ _=>d) cs') cs) d g) (fun _=>d) d a
def k64 {β:Type} (κ:IntKind) (d x:β):β:=IntKind.rec (motive:=fun _=>β) d d d x d d d d κ
def a64 {β:Type} (a:AV) (d:β) (f:Int→β):β:=aOne a d fun v=>vInt v d fun κ n=>k64 κ d (f n)
def aBool {β:Type} (a:AV) (d:β) (f:Bool→β):β:=aOne a d fun v=>vBool v d f
def intA (n:Int):AV:=.v false [.k (.int .i64 n)]
def Rp (b:Bool):AV:=.v false [.k (.bool b)]
def addI (m n:Int):Int:=Int.rec (motive:=fun _=>Int) (fun a=>Int.rec (motive:=fun _=>Int) (fun b=>.ofNat (Nat.add a b)) (fun b=>Int.subNatNat a (Nat.succ b)) n) (fun a=>Int.rec (motive:=fun _=>Int) (fun b=>Int.subNatNat b (Nat.succ a)) (fun b=>.negSucc (Nat.succ (Nat.add a b))) n) m
def negI (n:Int):Int:=Int.rec (motive:=fun _=>Int) (fun b=>Int.negOfNat b) (fun b=>.ofNat (Nat.succ b)) n
def leI (m n:Int):Bool:=Int.rec (motive:=fun _=>Bool) (fun a=>Int.rec (motive:=fun _=>Bool) (fun b=>Nat.ble a b) (fun _=>false) n) (fun a=>Int.rec (motive:=fun _=>Bool) (fun _=>true) (fun b=>Nat.ble b a) n) m
def eqI (m n:Int):Bool:=Int.rec (motive:=fun _=>Bool) (fun a=>Int.rec (motive:=fun _=>Bool) (fun b=>Nat.beq a b) (fun _=>false) n) (fun a=>Int.rec (motive:=fun _=>Bool) (fun _=>false) (fun b=>Nat.beq b a) n) m
def mulI (m n:Int):Int:=Int.rec (motive:=fun _=>Int) (fun a=>Int.rec (motive:=fun _=>Int) (fun b=>.ofNat (Nat.mul a b)) (fun b=>Int.negOfNat (Nat.mul a (Nat.succ b))) n) (fun a=>Int.rec (motive:=fun _=>Int) (fun b=>Int.negOfNat (Nat.mul (Nat.succ a) b)) (fun b=>.ofNat (Nat.mul (Nat.succ a) (Nat.succ b))) n) m
def in64 {β:Type} (z:Int) (d:β) (f:Int→β):β:=Int.rec (motive:=fun _=>β) (fun n=>Bool.rec (motive:=fun _=>β) d (Dc n fun n=>f (.ofNat n)) (Nat.ble n (nat_lit 9223372036854775807))) (fun n=>Bool.rec (motive:=fun _=>β) d (Dc n fun n=>f (.negSucc n)) (Nat.ble n (nat_lit 9223372036854775807))) z
theorem addI_eq (m n:Int):addI m n=m + n:=by cases m <;> cases n <;> rfl
theorem negI_eq (n:Int):negI n=-n:=by cases n <;> rfl
theorem mulI_eq (m n:Int):mulI m n=m * n:=by cases m <;> cases n <;> rfl
theorem leI_eq (m n:Int):leI m n=decide (m ≤ n):=by
 cases m with
 | ofNat a=>
  cases n with
  | ofNat b=>
   show Nat.ble a b=_
   by_cases h:a ≤ b
   ·rw [Nat.ble_eq_true_of_le h]; exact (decide_eq_true (Int.ofNat_le.2 h)).symm
   ·rw [Bool.eq_false_iff.2 fun hb=>h (Nat.le_of_ble_eq_true hb)]; exact (decide_eq_false fun hc=>h (Int.ofNat_le.1 hc)).symm
  | negSucc b=>show false=_; exact (decide_eq_false (by have:Int.ofNat a=(a:Int):=rfl; omega)).symm
 | negSucc a=>
  cases n with
  | ofNat b=>show true=_; exact (decide_eq_true (by have:Int.ofNat b=(b:Int):=rfl; omega)).symm
  | negSucc b=>
   show Nat.ble b a=_
   by_cases h:b ≤ a
   ·rw [Nat.ble_eq_true_of_le h]; exact (decide_eq_true (by omega)).symm
   ·rw [Bool.eq_false_iff.2 fun hb=>h (Nat.le_of_ble_eq_true hb)]; exact (decide_eq_false (by omega)).symm
theorem eqI_eq (m n:Int):eqI m n=(m == n):=by
 cases m with
 | ofNat a=>
  cases n with
  | ofNat b=>
   show Nat.beq a b=_
   rw [Ft]
   by_cases h:a=b
   ·subst h; simp
   ·have h2 : ¬ ((a : Int) = (b : Int)) := by omega
    simp [h,h2]
  | negSucc b=>rfl
 | negSucc a=>
  cases n with
  | ofNat b=>rfl
  | negSucc b=>
   show Nat.beq b a=_
   rw [Ft]
   by_cases h:b=a
   ·subst h; simp
   ·have : ¬ (a = b) := fun e => h e.symm
    simp [h,this]
theorem in64_ok {z:Int} {d:Bool} {f:Int→Bool} (h:in64 z d f=true):d=true ∨ w64 z=z∧f z=true:=by
 cases z with
 | ofNat n=>
  have h':Bool.rec (motive:=fun _=>Bool) d (Dc n fun n=>f (.ofNat n)) (Nat.ble n 9223372036854775807)=true:=h
  rw [Xk] at h'
  cases hb:Nat.ble n 9223372036854775807 with
  | false=>rw [hb] at h'; exact .inl h'
  | true=>
   rw [hb] at h'
   have:=Nat.le_of_ble_eq_true hb
   refine .inr ⟨?_,h'⟩
   unfold w64; rw [IntKind.wrap_i64]; have:Int.ofNat n=(n:Int):=rfl; omega
 | negSucc n=>
  have h':Bool.rec (motive:=fun _=>Bool) d (Dc n fun n=>f (.negSucc n)) (Nat.ble n 9223372036854775807)=true:=h
  rw [Xk] at h'
  cases hb:Nat.ble n 9223372036854775807 with
  | false=>rw [hb] at h'; exact .inl h'
  | true=>
   rw [hb] at h'
   have:=Nat.le_of_ble_eq_true hb
   refine .inr ⟨?_,h'⟩
   unfold w64; rw [IntKind.wrap_i64]; omega
theorem aOne_ok {a:AV} {d:Bool} {f:Value→Bool} (h:aOne a d f=true):d=true ∨ ∃ v,a=.v false [.k v]∧f v=true:=by
 match a,h with
 | .v true _,h=>exact .inl h
 | .v false [],h=>exact .inl h
 | .v false (.k v :: []),h=>exact .inr ⟨v,rfl,h⟩
 | .v false (.p _ _ :: []),h=>exact .inl h
 | .v false (.s _ _ _ _ _ :: []),h=>exact .inl h
 | .v false (.e _ :: []),h=>exact .inl h
 | .v false (.m _ :: []),h=>exact .inl h
 | .v false (.f _ _ :: []),h=>exact .inl h
 | .v false (.y _ :: []),h=>exact .inl h
 | .v false (_ :: _ :: _),h=>exact .inl h
 | .t _,h=>exact .inl h
 | .u,h=>exact .inl h
theorem vInt_ok {v:Value} {d:Bool} {f:IntKind→Int→Bool} (h:vInt v d f=true):d=true ∨ ∃ κ n,v=.int κ n∧f κ n=true:=by
 cases v <;> first
  | exact .inl h
  | exact .inr ⟨_,_,rfl,h⟩
theorem vBool_ok {v:Value} {d:Bool} {f:Bool→Bool} (h:vBool v d f=true):d=true ∨ ∃ b,v=.bool b∧f b=true:=by
 cases v <;> first
  | exact .inl h
  | exact .inr ⟨_,rfl,h⟩
theorem a64_ok {a:AV} {d:Bool} {f:Int→Bool} (h:a64 a d f=true):d=true ∨ ∃ n,a=intA n∧f n=true:=by
 rcases aOne_ok h with h | ⟨v,rfl,h⟩
 ·exact .inl h
 rcases vInt_ok h with h | ⟨κ,n,rfl,h⟩
 ·exact .inl h
 cases κ <;> first
  | exact .inl h
  | exact .inr ⟨n,rfl,h⟩
theorem Mr {a:AV} {d:Bool} {f:Bool→Bool} (h:aBool a d f=true):d=true ∨ ∃ b,a=Rp b∧f b=true:=by
 rcases aOne_ok h with h | ⟨v,rfl,h⟩
 ·exact .inl h
 rcases vBool_ok h with h | ⟨b,rfl,h⟩
 ·exact .inl h
 exact .inr ⟨b,rfl,h⟩

/-! ### Continuations -/
abbrev KA:=AV→St→Bool
abbrev KE:=Gv→St→Bool
abbrev KC:=AX→Gv→List Nat→St→Bool
structure FR where
 o:Bool→Cx→Oper→Gv→St→KA→Bool
 l:Bool→Cx→List Oper→List Oper→Gv→St→KE→Bool
 c:Bool→Cx→Bool→Nat→Code→Gv→List Nat→St→KC→Bool
 f:Bool→Cx→FuncId→List AV→St→KA→Bool
 r:Bool→Cx→Nat→List AV→St→KA→Bool
 lp:Bool→Cx→Bool→Nat→Code→Gv→List Nat→St→KC→Bool
structure PW where
 get:Gv→(AV→Bool)→Bool
def Il (t:Nat):Bool:=Nat.ble t (nat_lit 1099511627775)
def pw (x : Operand) : PW := match x with
 | .tmp t=>bif Il t then fPa (paF (nat_lit 41) t) fun p=>⟨fun env k=>Mp.rec (motive:=fun _=>Bool) (fun m _=>Option.rec (motive:=fun _=>Bool) (k .u) k (Ie p m)) env⟩ else ⟨fun env k=>k (env.at t)⟩
 | .const v=>Option.rec (motive:=fun _=>PW) ⟨fun _ _=>false⟩ (fun a=>fAV a fun a=>⟨fun _ k=>k a⟩) (ofV v)
 | .func f=>⟨fun _ k=>k (.v false [.f f []])⟩
 | .global _=>⟨fun _ _=>false⟩
theorem at_pa {env:Gv} {t:Nat} (h:Il t=true):env.at t=(Ie (paF 41 t) env.t).getD .u:=by
 have h1:t < 2 ^ 40:=by have:t ≤ 1099511627775:=Nat.le_of_ble_eq_true h; omega
 unfold Gv.at Mp.get
 rw [show Nat.ble t 1099511627775=true from h,cond_true,← pGet_eq 40 t env.t h1]
theorem Ba {x:Operand} {env:Gv} {k:AV→Bool} (h:(pw x).get env k=true):∃ a,aop env x=some a∧k a=true:=by
 cases x with
 | tmp t=>
  simp only [pw] at h
  refine ⟨_,rfl,?_⟩
  cases hs:Il t with
  | false=>rw [hs] at h; exact h
  | true=>
   rw [hs,cond_true,fPa_eq] at h
   rw [at_pa hs]
   cases env with
   | mk m b=>
    have h':Option.rec (motive:=fun _=>Bool) (k .u) k (Ie (paF 41 t) m)=true:=h
    cases hg:Ie (paF 41 t) m with
    | none=>rw [hg] at h'; exact h'
    | some a=>rw [hg] at h'; exact h'
 | const v=>
  simp only [pw] at h
  cases hv:ofV v with
  | none=>rw [hv] at h; cases h
  | some a=>rw [hv] at h; simp only [Ut] at h; exact ⟨a,hv,h⟩
 | func f=>exact ⟨_,rfl,h⟩
 | global g=>cases h
structure SW where
 run:Gv→AV→(Gv→Bool)→Bool
def sw (d : Option Nat) : SW := match d with
 | none=>⟨fun env _ k=>k env⟩
 | some d=>bif Il d then fPa (paF (nat_lit 41) d) fun p=>⟨fun env v k=>Mp.rec (motive:=fun _=>Bool) (fun t b=>pSet (some v) p t fun t=>k ⟨t,b⟩) env⟩ else ⟨fun env v k=>k (Mp.set env d (some v))⟩
theorem sw_eq (d:Option Nat) (env:Gv) (v:AV) (k:Gv→Bool):(sw d).run env v k=k (Ih env d v):=by
 cases d with
 | none=>rfl
 | some d=>
  simp only [sw,Ih]
  cases hs:Il d with
  | false=>rfl
  | true=>
   have h1:d < 2 ^ 40:=by have:d ≤ 1099511627775:=Nat.le_of_ble_eq_true hs; omega
   rw [cond_true]
   cases env with
   | mk t b=>
    have hset:Mp.set (⟨t,b⟩:Gv) d (some v)=⟨Tr.set t d (some v),b⟩:=by
     unfold Mp.set; rw [show Nat.ble d 1099511627775=true from hs,cond_true]
    rw [hset,← pSet_eq (some v) 40 d t (fun t=>k ⟨t,b⟩) h1 (Nat.le_refl _)]
    rw [fPa_eq]

/-! ### Operations -/
def kA (S:St) (k:KA) (a:Option AV):Bool:=Option.rec (motive:=fun _=>Bool) false (fun v=>fAV v fun v=>k v S) a
def kB (S0:St) (k:KA) (a:Option (AV × St)):Bool:=Option.rec (motive:=fun _=>Bool) false (fun p=>Prod.rec (motive:=fun _=>Bool) (fun v S=>fSt S fun S=>Bool.rec (motive:=fun _=>Bool) false (fAV v fun v=>k v S) (Nat.ble S0.n S.n)) p) a
def kS (S0:St) (k:KA) (a:Option St):Bool:=Option.rec (motive:=fun _=>Bool) false (fun S=>fSt S fun S=>Bool.rec (motive:=fun _=>Bool) false (k .u S) (Nat.ble S0.n S.n)) a
def kAR (R : FR) (d : Bool) (cx : Cx) (S : St) (k : KA) (r : AR) : Bool := match r with
 | .v v S'=>fSt S' fun S'=>bif Nat.ble S.n S'.n then fAV v fun v=>k v S' else false
 | .call f args=>R.f d cx f args S k
 | .rnd l args=>R.r d cx l args S k
def kAll (R : FR) (d : Bool) (cx : Cx) (S : St) (k : KA) : List AR → Bool
 | []=>true
 | r :: rs=>kAR R d cx S k r && kAll R d cx S k rs
def Lj (R : FR) (d : Bool) (cx : Cx) (S : St) (k : KA) (x : Option (List AR)) : Bool := match x with
 | some [r]=>kAR R d cx S k r
 | some (r :: rs)=>bif d then false else kAll R d cx S k (r :: rs)
 | _=>false
def sCs {β:Type} (l:List C):(List C→β)→β:=List.rec (motive:=fun _=>(List C→β)→β) (fun k=>k []) (fun c _ ih k=>ih fun l=>k (c :: l)) l
theorem sCs_eq {β : Type} : ∀ (l : List C) (k : List C → β), sCs l k = k l
 | [],_=>rfl
 | c :: l,k=>sCs_eq l fun l=>k (c :: l)
def sAV {β:Type} (a:AV) (k:AV→β):β:=AV.rec (motive:=fun _=>β) (fun g cs=>Sj g fun g=>sCs cs fun cs=>k (.v g cs)) (fun xs=>k (.t xs)) (k .u) a
theorem sAV_eq {β:Type} (a:AV) (k:AV→β):sAV a k=k a:=by cases a <;> simp only [sAV,Bh,sCs_eq]
def kL (S:St) (k:KA) (a:Option AV):Bool:=Option.rec (motive:=fun _=>Bool) false (fun v=>sAV v fun v=>k v S) a
structure FOp where
 run:Int→Int→(AV→Bool)→Bool→Bool
def fop (op : BinOp) : FOp := match op with
 | .add=>⟨fun m n k s=>in64 (addI m n) s fun z=>k (intA z)⟩
 | .sub=>⟨fun m n k s=>in64 (addI m (negI n)) s fun z=>k (intA z)⟩
 | .mul=>⟨fun m n k s=>in64 (mulI m n) s fun z=>k (intA z)⟩
 | .eql=>⟨fun m n k _=>Sj (eqI m n) fun b=>k (Rp b)⟩
 | .neq=>⟨fun m n k _=>Sj (eqI m n) fun b=>k (Rp (Bool.rec true false b))⟩
 | .lss=>⟨fun m n k _=>Sj (leI n m) fun b=>k (Rp (Bool.rec true false b))⟩
 | .leq=>⟨fun m n k _=>Sj (leI m n) fun b=>k (Rp b)⟩
 | .gtr=>⟨fun m n k _=>Sj (leI m n) fun b=>k (Rp (Bool.rec true false b))⟩
 | .geq=>⟨fun m n k _=>Sj (leI n m) fun b=>k (Rp b)⟩
 | _=>⟨fun _ _ _ s=>s⟩
structure FOW where
 run:FR→Bool→Cx→Gv→St→KA→Bool
def binF (R:FOp) (a b:AV) (k:AV→Bool) (s:Bool):Bool:=a64 a s fun m=>a64 b s fun n=>R.run m n k s
structure PWs where
 get:Gv→(List AV→Bool)→Bool
def pws (xs : List Operand) : PWs := match xs with
 | []=>⟨fun _ k=>k []⟩
 | x :: xs=>⟨fun env k=>(pw x).get env fun a=>(pws xs).get env fun l=>k (a :: l)⟩
theorem pws_ok {env : Gv} : ∀ {xs : List Operand} {k : List AV → Bool}, (pws xs).get env k = true → ∃ l, aops env xs = some l ∧ k l = true
 | [],k,h=>⟨[],rfl,h⟩
 | x :: xs,k,h=>by
  obtain ⟨a,h1,h2⟩:=Ba (x:=x) (k:=fun a=>(pws xs).get env fun l=>k (a :: l)) h
  obtain ⟨l,h3,h4⟩:=pws_ok (k:=fun l=>k (a :: l)) h2
  exact ⟨a :: l,by simp only [aops,h1,h3],h4⟩
def aFun (a:AV) (d:Bool) (f:FuncId→List (Nat × Nat)→Bool) (y:Nat→Bool):Bool:=AV.rec (motive:=fun _=>Bool) (fun g cs=>Bool.rec (motive:=fun _=>Bool) (List.rec (motive:=fun _=>Bool) d (fun c cs' _=>List.rec (motive:=fun _=>Bool) (C.rec (motive:=fun _=>Bool) (fun _=>d) (fun _ _=>d) (fun _ _ _ _ _=>d) (fun _=>d) (fun _=>d) (fun fn l=>f fn l) (fun l=>y l) c) (fun _ _ _=>d) cs') cs) d g) (fun _=>d) d a
theorem aFun_ok {a:AV} {f:FuncId→List (Nat × Nat)→Bool} {y:Nat→Bool} (h:aFun a false f y=true):(∃ fn l,a=.v false [.f fn l]∧f fn l=true) ∨ ∃ l,a=.v false [.y l]∧y l=true:=by
 match a,h with
 | .v true _,h=>cases h
 | .v false [],h=>cases h
 | .v false (.k _ :: []),h=>cases h
 | .v false (.p _ _ :: []),h=>cases h
 | .v false (.s _ _ _ _ _ :: []),h=>cases h
 | .v false (.e _ :: []),h=>cases h
 | .v false (.m _ :: []),h=>cases h
 | .v false (.f fn l :: []),h=>exact .inl ⟨fn,l,rfl,h⟩
 | .v false (.y l :: []),h=>exact .inr ⟨l,rfl,h⟩
 | .v false (_ :: _ :: _),h=>cases h
 | .t _,h=>cases h
 | .u,h=>cases h
def cwl (P : Program) (tab : Tab) (o : Oper) (c : Call) : FOW := match c.callee with
 | .value f=>⟨fun R d cx env S k=>(pw f).get env fun a=>aFun a false (fun g caps=>bif (tab.get g).isSome then (pws c.args.toList).get env fun l=>R.f d cx g (l ++ caps.map capV) S k else false) fun j=>(pws c.args.toList).get env fun l=>R.r d cx j l S k⟩
 | .builtin .append => match c.args.toList, c.argTypes.toList with
  | [x,y],[t,t']=>bif Nat.beq t t' then ⟨fun _ _ cx env S k=>kB S k (aApp P cx S env t x y)⟩ else ⟨fun _ _ _ env S k=>kB S k (aAppZ P S env t t' x y)⟩
  | _,_=>⟨fun _ _ _ _ _ _=>false⟩
 | .builtin .len => match c.args.toList, c.argTypes.toList with
  | [x],[t]=>⟨fun _ _ cx env S k=>kA S k (orE (Hf P env o) (aLen P cx S env t x))⟩
  | _,_=>⟨fun _ _ _ _ _ _=>false⟩
 | .builtin .copy => match c.args.toList, c.argTypes.toList with
  | [x,y],[t,_]=>⟨fun _ _ cx env S k=>kB S k (Eo P cx S env t x y)⟩
  | _,_=>⟨fun _ _ _ _ _ _=>false⟩
 | .builtin .delete => match c.args.toList, c.argTypes.toList with
  | [x,y],[t,_]=>⟨fun _ _ cx env S k=>kS S k (Rb P cx S env t x y)⟩
  | _,_=>⟨fun _ _ _ _ _ _=>false⟩
 | _=>⟨fun _ _ _ env S k=>kA S k (Hf P env o)⟩
def ow (P : Program) (tab : Tab) (o : Oper) : FOW := match o.op with
 | .move x=>⟨fun _ _ _ env S k=>(pw x).get env fun a=>k a S⟩
 | .assign x=>⟨fun _ _ _ env S k=>(pw x).get env fun a=>k a S⟩
 | .binOp op t x y _=>⟨fun _ _ _ env S k=>(pw x).get env fun a=>(pw y).get env fun b=>binF (fop op) a b (fun v=>k v S) (kA S k (orE (aInt env op x y) (orE (Hf P env o) (aNilEq P env op t x y))))⟩
 | .pick c x y=>⟨fun _ _ _ env S k=>(pw c).get env fun a=>aBool a false fun b=>Bool.rec (motive:=fun _=>Bool) ((pw y).get env fun a=>k a S) ((pw x).get env fun a=>k a S) b⟩
 | .extract x i=>⟨fun _ _ _ env S k=>kA S k (Cm env x i)⟩
 | .alloc t=>⟨fun _ _ _ _ S k=>kB S k (Nk P S t)⟩
 | .box t x=>⟨fun _ _ _ env S k=>kB S k (aBox S env t x)⟩
 | .load t x=>⟨fun _ _ cx env S k=>kL S k (aLoad P cx S env t x)⟩
 | .store t x y=>⟨fun _ _ cx env S k=>kS S k (Oc P cx S env t x y)⟩
 | .fieldAddr s x i=>⟨fun _ _ _ env S k=>kA S k (aField P env s x i)⟩
 | .indexAddr t x y=>⟨fun _ _ _ env S k=>kA S k (aIndex P env t x y)⟩
 | .nilCheck x=>⟨fun _ _ _ env S k=>kA S k (aNil env x)⟩
 | .field s x i=>⟨fun _ _ _ env S k=>kL S k (Aq P env s x i)⟩
 | .index t x y=>⟨fun _ _ _ env S k=>kA S k (orE (Ax P env t x y) (Hf P env o))⟩
 | .makeFunc (.func fn) first cs=>⟨fun R d cx env S k=>Lj R d cx S k (bif Nat.beq first.size 0 then r1 S ((Nm env cs.toList).map fun l=>.v false [.f fn l]) else none)⟩
 | .slice t x lo hi mx=>⟨fun _ _ cx env S k=>kA S k (orE (aSlice P cx S env t x lo hi mx) (Hf P env o))⟩
 | .build t ps=>⟨fun _ _ _ env S k=>kL S k (aBuild P env t ps.toList)⟩
 | .buildSlice t n ps=>⟨fun _ _ _ env S k=>kB S k (Fb P S env t n ps.toList)⟩
 | .makeSlice t x y=>⟨fun _ _ _ env S k=>kB S k (aMake P S env t x y)⟩
 | .makeMap _ r=>⟨fun _ _ _ _ S k=>kB S k (Br S r)⟩
 | .lookup t x y ok=>⟨fun _ _ cx env S k=>kA S k (orE (Ar P cx S env t x y ok) (Lc P cx S env t x y ok))⟩
 | .mapUpdate t x y z=>⟨fun _ _ cx env S k=>kS S k (orE (Xp P cx S env t x y z) (Ur P cx S env t x y z))⟩
 | .insert t x y z=>⟨fun _ _ cx env S k=>kS S k (orE (Xp P cx S env t x y z) (Ur P cx S env t x y z))⟩
 | .mapEntry t x y=>⟨fun _ _ cx env S k=>kB S k (Vo P cx S env t x y)⟩
 | .entryStore _ x y z=>⟨fun _ _ cx env S k=>kS S k (Yk cx S env x y z)⟩
 | .makeInterface _ _=>⟨fun _ _ _ env S k=>kA S k (Hf P env o)⟩
 | .typeAssert _ _ _ _=>⟨fun _ _ _ env S k=>kA S k (Hf P env o)⟩
 | .range t x=>⟨fun _ _ cx env S k=>kB S k (Ou P cx S env t x)⟩
 | .next x false=>⟨fun R d cx env S k=>Lj R d cx S k ((Iy cx S env x).map fun l=>l.map fun p=>.v p.1 p.2)⟩
 | .entry x=>⟨fun _ _ cx env S k=>kA S k (aEntry cx S env x)⟩
 | .call c=>cwl P tab o c
 | .unOp _ _ _=>⟨fun _ _ _ env S k=>kA S k (Hf P env o)⟩
 | .convert _ _ _=>⟨fun _ _ _ env S k=>kA S k (Hf P env o)⟩
 | _=>⟨fun _ _ _ _ _ _=>false⟩

/-! ### Code -/
inductive GW where
 | no
 | on (t:Nat) (b:Bool)
 | bad
def gw (all : List Oper) (o : Oper) : GW := match o.guard with
 | none=>.no
 | some (j, b) => match (all[j]?).bind (·.dst) with
  | none=>.bad
  | some d=>.on d b
def gB (a:AV) (b:Bool) (yes no:Bool):Bool:=AV.rec (motive:=fun _=>Bool) (fun g cs=>aBool (.v g cs) false fun b'=>Bool.rec (motive:=fun _=>Bool) (Bool.rec (motive:=fun _=>Bool) yes no b) (Bool.rec (motive:=fun _=>Bool) no yes b) b') (fun _=>false) no a
structure LW where
 run:FR→Bool→Cx→Gv→St→KE→Bool
def lw (all rest : List Oper) : LW := match rest with
 | []=>⟨fun _ _ _ env S k=>k env S⟩
 | o :: rest => match gw all o with
  | .no=>⟨fun R d cx env S k=>R.o d cx o env S fun v S=>(sw o.dst).run env v fun env=>R.l d cx all rest env S k⟩
  | .on t b=>⟨fun R d cx env S k=>(pw (.tmp t)).get env fun a=>gB a b (R.o d cx o env S fun v S=>(sw o.dst).run env v fun env=>R.l d cx all rest env S k) ((sw o.dst).run env .u fun env=>R.l d cx all rest env S k)⟩
  | .bad=>⟨fun _ _ _ _ _ _=>false⟩
structure FtW where
 f:Gv→Nat→Bool
def ftw (o : Oper) : FtW := match o.op with
 | .call c => match c.callee with
  | .value _=>⟨fun _ _=>true⟩
  | _=>⟨fun env b=>o.op.operands.toList.any (opB env b)⟩
 | .range _ _=>⟨fun _ _=>true⟩
 | .next _ _=>⟨fun _ _=>true⟩
 | .entry _=>⟨fun _ _=>true⟩
 | .load _ _=>⟨fun env b=>o.op.operands.toList.any (opB env b)⟩
 | .store _ _ _=>⟨fun env b=>o.op.operands.toList.any (opB env b)⟩
 | .slice _ _ _ _ _=>⟨fun env b=>o.op.operands.toList.any (opB env b)⟩
 | .lookup _ _ _ _=>⟨fun env b=>o.op.operands.toList.any (opB env b)⟩
 | .mapUpdate _ _ _ _=>⟨fun env b=>o.op.operands.toList.any (opB env b)⟩
 | .insert _ _ _ _=>⟨fun env b=>o.op.operands.toList.any (opB env b)⟩
 | .mapEntry _ _ _=>⟨fun env b=>o.op.operands.toList.any (opB env b)⟩
 | .entryStore _ _ _ _=>⟨fun env b=>o.op.operands.toList.any (opB env b)⟩
 | _=>⟨fun _ _=>false⟩
theorem ftw_eq (env:Gv) (o:Oper):(ftw o).f env=foot env o:=by
 obtain ⟨dst,op,ty,pos,aft,gd⟩:=o
 cases op <;> first
  | rfl
  | (rename_i c; obtain ⟨callee,args,ats⟩:=c; cases callee <;> rfl)
def rcY (cx:Cx) (env:Gv) (o:Oper) (m n:Nat) (rs:List Rc) (S S':St) (v:AV):Rc:={ k:=n,o:=o,want:=true,cx:=dcx cx ((ftw o).f env) m rs S.n,env:=env,S:=S.bare,q:=xo1 S' v }
def rcN (env:Gv) (o:Oper) (n:Nat) (S:St):Rc:={ k:=n,o:=o,want:=false,cx:=⟨fun _=>false,fun _=>false,S.n⟩,env:=env,S:=S.bare,q:=xo1 S.bare .u }
structure DW where
 run:FR→Cx→List Rc→Nat→Gv→St→(List Rc→Gv→St→Bool)→Bool
def dw (all : List Oper) (m : Nat) (o : Oper) : DW := match gw all o with
 | .no=>⟨fun R cx rs n env S k=>R.o true (dcx cx ((ftw o).f env) m rs S.n) o env S.bare fun v S'=>(sw o.dst).run env v fun env'=>fSt (S.back cx S') fun S1=>k (rcY cx env o m n rs S S' v :: rs) env' S1⟩
 | .on t b => ⟨fun R cx rs n env S k => (pw (.tmp t)).get env fun a => gB a b (R.o true (dcx cx ((ftw o).f env) m rs S.n) o env S.bare fun v S' => (sw o.dst).run env v fun env' => fSt (S.back cx S') fun S1 => k (rcY cx env o m n rs S S' v :: rs) env' S1)
   ((sw o.dst).run env .u fun env'=>k (rcN env o n S :: rs) env' S)⟩
 | .bad=>⟨fun _ _ _ _ _ _ _=>false⟩
def fdrw (R : FR) (cx : Cx) (all : List Oper) (k : KE) (l : List Oper) : List Nat → List Rc → Nat → Gv → St → Bool := List.rec (motive := fun _ => List Nat → List Rc → Nat → Gv → St → Bool) (fun _ _ _ env S => k env S)
 (fun o _ ih ms rs n env S=>List.rec (motive:=fun _=>Bool) false (fun m ms' _=>(dw all m o).run R cx rs n env S fun rs env S=>Dc (Nat.succ n) fun n=>ih ms' rs n env S) ms) l
structure CW where
 run:FR→Bool→Cx→Gv→List Nat→St→KC→Bool
def fEnd (cx : Cx) (l : Nat) (env : Gv) (ms : List Nat) (S : St) (k : KC) : Bool := match Cl cx l env ms S with
 | some [r]=>fSt r.S fun S=>k r.x r.env r.ms S
 | _=>false
def cw (tab : Tab) (inr : Bool) (N : Nat) (c : Code) : CW := match c with
 | .skip=>⟨fun _ _ _ env ms S k=>k .nrm env ms S⟩
 | .ret=>⟨fun _ _ _ env ms S k=>k .ret env ms S⟩
 | .exit id=>⟨fun _ _ _ env ms S k=>k (.exit id) env ms S⟩
 | .seq a b=>⟨fun R d cx env ms S k=>R.c d cx inr N a env ms S fun x env ms S=>AX.rec (motive:=fun _=>Bool) (R.c d cx inr N b env ms S k) (k .ret env ms S) (fun id=>k (.exit id) env ms S) x⟩
 | .cond q a b=>⟨fun R d cx env ms S k=>(pw q).get env fun v=>aBool v false fun t=>Bool.rec (motive:=fun _=>Bool) (R.c d cx inr N b env ms S k) (R.c d cx inr N a env ms S k) t⟩
 | .block id a=>⟨fun R d cx env ms S k=>R.c d cx inr N a env ms S fun x env ms S=>k (blkX id x) env ms S⟩
 | .loop a=>⟨fun R d cx env ms S k=>R.lp d cx inr N a env ms S k⟩
 | .region _ ops draw=>Array.rec (motive:=fun _=>CW) (fun l=>Bool.rec (motive:=fun _=>CW) ⟨fun R d cx env ms S k=>R.l d cx l l env S fun env S=>k .nrm env ms S⟩ ⟨fun R _ cx env ms S k=>fdrw R cx l (fun env S=>k .nrm env ms S) l (Ck l) [] (nat_lit 0) env S⟩ draw) ops
 | .rangeFunc f ps asg body => ⟨fun R d cx env ms S k => bif inr then false else match aop env f with
   | some (.v false [.f g caps]) => bif (tab.get g).isSome then
     R.f d cx g (.v false [.y (S.n + 1)] :: caps.map capV) ((S.new .dfr).new (.loop N env ps.toList asg body .ready none S.n)) fun _ S'=>fEnd cx (S.n + 1) env (S.n :: ms) S' k
    else false
   | _=>false⟩
 | _=>⟨fun _ _ _ _ _ _ _=>false⟩
def fF (P : Program) (R : FR) (d : Bool) (cx : Cx) (args : List AV) (S : St) (k : KA) (i : Option FI) : Bool := match i with
 | some i => bif Nat.ble args.length i.fn.ntmps then
   R.c d cx false i.fn.ntmps i.c (envL args 0 Mp.nil) [] S fun x env ms S => AX.rec (motive := fun _ => Bool)
    (match Jg cx S ms with
     | some S2 => fSt S2 fun S2 => match Ia P cx S2 env i.fn.results.toList with
      | some v=>fAV v fun v=>k v S2
      | none=>false
     | none=>false)
    (match Jg cx S ms with
     | some S2 => fSt S2 fun S2 => match Ia P cx S2 env i.fn.results.toList with
      | some v=>fAV v fun v=>k v S2
      | none=>false
     | none=>false) (fun _=>false) x
  else false
 | none=>false
def fR (R : FR) (d : Bool) (cx : Cx) (l : Nat) (args : List AV) (S : St) (k : KA) : Bool := match S.look cx l with
 | some (.loop N env ps asg body _ _ _) => bif Nat.beq args.length ps.length then
   R.c d cx true N asg (setPs env ps args) [] S fun x env ms S=>match x with
   | .nrm => match Bq cx l S with
    | some S1 => fSt S1 fun S1 => R.c d cx true N body env ms S1 fun x _ _ S => match Ld cx l x S with
     | some [r]=>fSt r.S fun S=>k r.v S
     | _=>false
    | none=>false
   | _=>false
  else false
 | _=>false
def fr (P : Program) (tab : Tab) (n : Nat) : FR := Nat.rec (motive := fun _ => FR) ⟨fun _ _ _ _ _ _ => false, fun _ _ _ _ _ _ _ => false, fun _ _ _ _ _ _ _ _ _ => false, fun _ _ _ _ _ _ => false, fun _ _ _ _ _ _ => false, fun _ _ _ _ _ _ _ _ _ => false⟩
 (fun _ R=>⟨fun d cx o env S k=>(ow P tab o).run R d cx env S k,fun d cx all rest env S k=>(lw all rest).run R d cx env S k,fun d cx inr N c env ms S k=>(cw tab inr N c).run R d cx env ms S k,
  fun d cx f args S k=>fF P R d cx args S k (tab.get f),fun d cx l args S k=>fR R d cx l args S k,
  fun d cx inr N a env ms S k=>R.c d cx inr N a env ms S fun x env ms S=>AX.rec (motive:=fun _=>Bool) (R.lp d cx inr N a env ms S k) (k .ret env ms S) (fun id=>k (.exit id) env ms S) x⟩) n
end
end Go.Proofs.Ytplaipkjhlkjgaa
