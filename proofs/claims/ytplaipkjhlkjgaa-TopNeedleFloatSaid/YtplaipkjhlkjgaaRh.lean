/- A machine of plain data: make, len, append, nil, and that the model does the same. No program is named here. -/
import Derived.Test.YtplaipkjhlkjgaaRg
import Derived.Laws.MakeOwn
namespace Go.Proofs.Ytplaipkjhlkjgaa
noncomputable section
open Go.RowKit
section
variable {cx:Cx} {base:Nat} {ρ:Rn} {S S':St} {w w':World} {env:Gv} {e:Env} {xs:List Operand} {P:Program}
theorem made_toList (z:Array Value) (n:Nat):(madeCells z (n * z.size)).toList=(List.replicate n z.toList).flatten:=by
 have:=Dq z n
 unfold madeCells
 rw [this]
def aMake (P:Program) (S:St) (env:Gv) (t:TypeId) (x y:Operand):Option (AV × St):=
 match P.underlying t,Ub env x,Ub env y with
 | some (.slice el), some (.int _ l), some (.int _ c) => match P.info? el, De P el with
  | some ti, some (_, zc) => bif decide (0 ≤ l) && decide (l ≤ c) && decide (c ≤ 1048576) && Nat.beq zc.length ti.size && Nat.blt 0 ti.size && Nat.ble ti.bytes 65536 then
    some (.v false [.s S.n 0 l.toNat (some c.toNat) ti.size],S.new (.cells (repC c.toNat zc) el)) else none
  | _,_=>none
 | _,_,_=>none
theorem aMake_ok (hs:Sim cx base ρ S w) {o:Oper} {t:TypeId} {x y:Operand} {a:AV} (hop:o.op=.makeSlice t x y) (ho:Hb ρ w env e o.op.operands.toList) (h:aMake P S env t x y=some (a,S')) (hN:∀ b,S.n ≤ b→b < S'.n→ρ b=none):Hi cx base ρ S w a S' ((execOp (ev e) o).run P w):=by
 unfold aMake at h
 split at h
 ·rename_i el k1 l k2 c hu hx hy
  split at h
  ·rename_i ti g zc hti hz
   cases hg:(decide (0 ≤ l) && decide (l ≤ c) && decide (c ≤ 1048576) && Nat.beq zc.length ti.size && Nat.blt 0 ti.size && Nat.ble ti.bytes 65536) with
   | false=>rw [hg] at h; cases h
   | true=>
    rw [hg] at h; simp only [cond_true,Option.some.injEq,Prod.mk.injEq] at h
    obtain ⟨rfl,rfl⟩:=h
    simp only [Bool.and_eq_true,decide_eq_true_eq] at hg
    obtain ⟨⟨⟨⟨⟨g1,g2⟩,g3⟩,g4⟩,g5⟩,g6⟩:=hg
    have hzl:=Nat.eq_of_beq_eq_true g4
    have hb:=Nat.le_of_ble_eq_true g6
    have hx':=Kf hx ho (by simp [hop,Op.operands])
    have hy':=Kf hy ho (by simp [hop,Op.operands])
    obtain ⟨it,zv,hit,hzr,hzv⟩:=Xl hz
    rw [hti] at hit; injection hit with hit; subst hit
    have hzc:=V1.cells (hzv ρ w)
    have hzs:zv.cells.size=ti.size:=by have:=hzc.len; simp at this; omega
    have hbc:(ti.bytes:Int) * c ≤ 281474976710656:=by
     have h1:(ti.bytes:Int) ≤ 65536:=by omega
     have h2:(ti.bytes:Int) * c ≤ 65536 * c:=Int.mul_le_mul_of_nonneg_right h1 (by omega)
     omega
    have hrun:=run_make (P:=P) w t el ti zv hu hti hzr k1 k2 l c g1 g2 hbc (by omega)
    have hf:=hN S.n (Nat.le_refl _) (Nat.lt_succ_self _)
    have hcells:=made_toList zv.cells c.toNat
    rw [hzs] at hcells
    refine Vw hs (o:=.cells (madeCells zv.cells (c.toNat * ti.size)) el) hf ?_ (Nc hf (repC_ok hzc) fun j v hj=>?_) (V1.of ⟨(w.heap.size,0),c.toNat,Wf _ _ _,rfl,by omega,by simp only [maxLen]; omega,fun c0 h=>by injection h,_,el,Qk _ _,?_⟩)
    ·simp only [execOp,hop,hx',hy',Sem.run_bind,hrun,Result.andThen_ok,Sem.run_pure]
    ·rw [← Array.getElem?_toList,hcells]; exact hj
    ·rw [size_madeCells]; omega
  ·cases h
 ·cases h

/-! ### Lengths -/
def aLen (P:Program) (cx:Cx) (S:St) (env:Gv) (t:TypeId) (x:Operand):Option AV:=
 match aop env x,P.underlying t with
 | some (.v false [.s _ _ len _ _]),some (.slice _)=>some (.v false [.k (.int .i64 len)])
 | some (.v false [.e _]),some (.slice _)=>some (.v false [.k (.int .i64 0)])
 | some (.v false [.m b]), some (.map _ _) => match S.look cx b with
  | some (.map es)=>some (.v false [.k (.int .i64 es.length)])
  | _=>none
 | _,_=>none
theorem aLen_ok (hs:Sim cx base ρ S w) {o:Oper} {t:TypeId} {x:Operand} {a:AV} (hop:o.op=.call { callee:=.builtin .len,args:=#[x],argTypes:=#[t] }) (ho:Hb ρ w env e o.op.operands.toList) (h:aLen P cx S env t x=some a):Hi cx base ρ S w a S ((execOp (ev e) o).run P w):=by
 have hm:x ∈ o.op.operands.toList:=by simp [hop,Op.operands,Call.operands]
 unfold aLen at h
 split at h
 ·rename_i b off len cap z el hx hu
  injection h with h; subst h
  obtain ⟨y,c,hy,hv,_⟩:=V1.one (Qa hx ho hm)
  exact Ti (v:=.int .i64 len) hs (by simp [execOp,hop,resolve,invoke,builtin,Builtin.len_,hv,run_underlying hu,goInt]) (V1.of ⟨rfl,rfl⟩)
 ·rename_i f el hx hu
  injection h with h; subst h
  obtain ⟨ad,c,hv,_⟩:=V1.one (Qa hx ho hm)
  exact Ti (v:=.int .i64 0) hs (by simp [execOp,hop,resolve,invoke,builtin,Builtin.len_,hv,run_underlying hu,goInt]) (V1.of ⟨rfl,rfl⟩)
 ·rename_i b k el hx hu
  split at h
  ·rename_i es hl
   injection h with h; subst h
   obtain ⟨y,hy,hv⟩:=V1.one (Qa hx ho hm)
   obtain ⟨y',hy',⟨arr,hh,hsz,_⟩,_⟩:=Dk hs hl
   rw [hy] at hy'; injection hy' with hy'; subst hy'
   refine Ti (v:=.int .i64 es.length) hs ?_ (V1.of ⟨rfl,rfl⟩)
   simp [execOp,hop,resolve,invoke,builtin,Builtin.len_,hv,run_underlying hu,goInt,getObj,Sem.run,hh,hsz,Sem.run_bind,Result.andThen]
  ·cases h
 ·cases h

/-! ### Against nil -/
def Md (a b:C) (d:TypeDesc):Bool:=
 match a,b,d with
 | .p _ _,.k (.pointer none),.pointer _=>true
 | .s _ _ _ _ _,.k (.slice none _ _),.slice _=>true
 | .e _,.k (.slice none _ _),.slice _=>true
 | .m _,.k (.map none),.map _ _=>true
 | .f _ _,.k .nilFunc,.func _ _ _=>true
 | _,_,_=>false
theorem nilFits_run {a b : C} {d : TypeDesc} {t : TypeId} {u v : Value} (h : Md a b d = true) (hu : P.underlying t = some d) (hx : CR ρ w a u) (hy : CR ρ w b v) (x y : Operand) :
  (∀ op,(eqGuard op t x y u v).run P w=.ok () w)∧(binOp .eql t u v).run P w=.ok (.bool false) w∧(binOp .neq t u v).run P w=.ok (.bool true) w:=by
 have key:(∀ op,(eqGuard op t x y u v).run P w=.ok () w)∧(∀ k,(Op.equalIn (k + 1) t u v).run P w=.ok false w)∧binOp .eql t u v=(do pure (.bool (← Op.equal t u v)))∧binOp .neq t u v=(do pure (.bool (!(← Op.equal t u v)))):=by
  unfold Md at h
  split at h
  all_goals first
   | cases h
   | skip
  all_goals obtain rfl:=hy.1
  ·obtain ⟨q, _, rfl⟩ := hx
   exact ⟨fun op=>by cases op <;> rfl,fun k=>by simp only [Op.equalIn,Sem.run_bind,run_underlying hu,Result.andThen_ok]; rfl,rfl,rfl⟩
  ·obtain ⟨q, c, _, rfl, _⟩ := hx
   exact ⟨fun op=>by cases op <;> rfl,fun k=>by simp only [Op.equalIn,Sem.run_bind,run_underlying hu,Result.andThen_ok]; rfl,rfl,rfl⟩
  ·obtain ⟨ad, c, rfl, _⟩ := hx
   exact ⟨fun op=>by cases op <;> rfl,fun k=>by simp only [Op.equalIn,Sem.run_bind,run_underlying hu,Result.andThen_ok]; rfl,rfl,rfl⟩
  ·obtain ⟨q, _, rfl⟩ := hx
   exact ⟨fun op=>by cases op <;> rfl,fun k=>by simp only [Op.equalIn,Sem.run_bind,run_underlying hu,Result.andThen_ok]; rfl,rfl,rfl⟩
  ·obtain ⟨vs, rfl, _⟩ := hx
   exact ⟨fun op=>by cases op <;> rfl,fun k=>by simp only [Op.equalIn,Sem.run_bind,run_underlying hu,Result.andThen_ok]; rfl,rfl,rfl⟩
 obtain ⟨h1,h2,h3,h4⟩:=key
 have h5:(Op.equal t u v).run P w=.ok false w:=h2 9999
 exact ⟨h1,by simp only [h3,Sem.run_bind,h5,Result.andThen_ok,Sem.run_pure],by simp only [h4,Sem.run_bind,h5,Result.andThen_ok,Sem.run_pure]; rfl⟩
def aNilEq (P:Program) (env:Gv) (op:BinOp) (t:TypeId) (x y:Operand):Option AV:=
 match aop env x,aop env y,P.underlying t with
 | some (.v false [a]),some (.v false [b]),some d=>
  bif Md a b d then
   match op with
   | .eql=>some (.v false [.k (.bool false)])
   | .neq=>some (.v false [.k (.bool true)])
   | _=>none
  else none
 | _,_,_=>none
theorem aNilEq_ok (hs:Sim cx base ρ S w) {o:Oper} {op:BinOp} {t t2:TypeId} {x y:Operand} {a:AV} (hop:o.op=.binOp op t x y t2) (ho:Hb ρ w env e o.op.operands.toList) (h:aNilEq P env op t x y=some a):Hi cx base ρ S w a S ((execOp (ev e) o).run P w):=by
 unfold aNilEq at h
 split at h
 ·rename_i a1 b1 d hx hy hu
  have hxr:=V1.one (Qa hx ho (by simp [hop,Op.operands]))
  have hyr:=V1.one (Qa hy ho (by simp [hop,Op.operands]))
  cases hg:Md a1 b1 d with
  | false=>rw [hg] at h; cases h
  | true=>
   rw [hg] at h; simp only [cond_true] at h
   obtain ⟨h1,h2,h3⟩:=nilFits_run hg hu hxr hyr x y
   cases op <;> first
    | (cases h; done)
    | skip
   ·injection h with h; subst h
    exact Ti hs (by simp only [execOp,hop,Sem.run_bind,h1,h2,Result.andThen_ok,Sem.run_pure]) (V1.of ⟨rfl,rfl⟩)
   ·injection h with h; subst h
    exact Ti hs (by simp only [execOp,hop,Sem.run_bind,h1,h3,Result.andThen_ok,Sem.run_pure]) (V1.of ⟨rfl,rfl⟩)
 ·cases h

/-! ### append -/
def srcC (cx : Cx) (S : St) (z : Nat) : AV → Option (Nat × List C)
 | .v false [.s b off n _ z2] => match S.look cx b with
  | some (.cells cs _)=>bif Nat.beq z2 z then (segC cs off (n * z)).map fun l=>(n,l) else none
  | _=>none
 | .v false [.e _]=>some (0,[])
 | .v false [.k (.slice none 0 0)]=>some (0,[])
 | _=>none
theorem srcC_ok (hs : Sim cx base ρ S w) {z n : Nat} {a : AV} {l : List C} {v : Value} (h : srcC cx S z a = some (n, l)) (hv : VR ρ w a v) :
  ∃ vs,CsR ρ w l vs∧vs.length=n * z∧((n=0∧∃ ad c,v=.slice ad 0 c) ∨ ∃ b off c,v=.slice (some ⟨b,off,none⟩) n c∧∀ j x,vs[j]?=some x→w.cell? ((⟨b,off,none⟩:Addr).add j)=some x):=by
 unfold srcC at h
 split at h
 ·rename_i b off n' cap z2
  split at h
  ·rename_i cs el hl
   cases hz:Nat.beq z2 z with
   | false=>rw [hz] at h; cases h
   | true=>
    rw [hz] at h; simp only [cond_true,Option.map_eq_some_iff,Prod.mk.injEq] at h
    obtain ⟨l',h1,rfl,rfl⟩:=h
    obtain ⟨y,c,hy,hv',_⟩:=V1.one hv
    obtain ⟨y',hy',⟨arr,vs,hh,hr,hc⟩,_⟩:=Dk hs hl
    rw [hy] at hy'; injection hy' with hy'; subst hy'
    obtain ⟨h2,h3⟩:=Mc h1 hr
    refine ⟨_,h2,h3,.inr ⟨y.1,y.2 + off,c,hv',fun j x hj=>?_⟩⟩
    rw [Qr,Nat.add_assoc]
    simp only [World.cell?,hh,Option.isSome_none,Bool.false_eq_true,if_false]
    exact hc _ _ (Fy hj)
  ·cases h
 ·simp only [Option.some.injEq, Prod.mk.injEq] at h; obtain ⟨rfl, rfl⟩ := h
  obtain ⟨ad,c,hv',_⟩:=V1.one hv
  exact ⟨[],.nil,by simp,.inl ⟨rfl,_,c,hv'⟩⟩
 ·simp only [Option.some.injEq, Prod.mk.injEq] at h; obtain ⟨rfl, rfl⟩ := h
  exact ⟨[],.nil,by simp,.inl ⟨rfl,none,0,(V1.one hv).1⟩⟩
 ·cases h
theorem Sf (hs : Sim cx base ρ S w) (hf : ρ S.n = none) {cs : List C} {vs : List Value} {z need old : Nat} {zc : Array Value} {el : TypeId} (hr : CsR ρ w cs vs) (hl : vs.length = need * z) (hzs : zc.size = z) (hneed : need ≤ 1099511627776) :
  ∃ ρ', Evo cx ρ S w ρ' (S.new (.cells cs el)) (w.drew.alloc (.cells (vs.toArray ++ Builtin.zeroCells zc (grownCap w need old el - need)) el)) ∧
   Sim cx base ρ' (S.new (.cells cs el)) (w.drew.alloc (.cells (vs.toArray ++ Builtin.zeroCells zc (grownCap w need old el - need)) el)) ∧
   VR ρ' (w.drew.alloc (.cells (vs.toArray ++ Builtin.zeroCells zc (grownCap w need old el - need)) el)) (.v false [.s S.n 0 need none z]) (.slice (some ⟨w.heap.size,0,none⟩) need (grownCap w need old el)):=by
 have hge:=grownCap_ge w need old el
 have hcm:grownCap w need old el ≤ maxLen:=grownCap_le_maxLen w need old el (by simp only [maxLen]; omega)
 generalize grownCap w need old el=gc at hge hcm ⊢
 have hbr:BR (Ua ρ S.n (w.heap.size,0)) (w.drew.alloc (.cells (vs.toArray ++ Builtin.zeroCells zc (gc - need)) el)) (.cells cs el) (w.heap.size,0):=
  Nc (w:=w.drew) hf (CsR.mono (Jf.refl _) (Fo w) hr) fun j v hj=>by
   rw [Array.getElem?_append_left (by simp only [List.size_toArray]; exact (List.getElem?_eq_some_iff.1 hj).1),List.getElem?_toArray]; exact hj
 obtain ⟨ev,sm⟩:=new_ok hs.drew hf (.cells (vs.toArray ++ Builtin.zeroCells zc (gc - need)) el) _ hbr
 refine ⟨_,?_,sm,V1.of ⟨(w.heap.size,0),gc,Wf _ _ _,rfl,hge,hcm,(fun c0 h=>by cases h),_,el,Qk w.drew _,?_⟩⟩
 ·refine (Ov hs.cut).trans hs.cut ev fun b h1 h2 => ?_
  have:b=S.n:=by have:b < S.n + 1:=h2; omega
  rw [this]; exact hf
 ·simp only [Array.size_append, List.size_toArray, size_zeroCells, hzs, hl, Nat.zero_add, ← Nat.add_mul]
  exact Nat.le_of_eq (by congr 1; omega)
end
end
end Go.Proofs.Ytplaipkjhlkjgaa
