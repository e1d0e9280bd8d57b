/- A machine of plain data: slices, literals, append, maps, and that the model does the same. No program is named here. -/
import Derived.Test.YtplaipkjhlkjgaaRd
namespace Go.Proofs.Ytplaipkjhlkjgaa
noncomputable section
open Go.RowKit
section
variable {cx:Cx} {base:Nat} {ρ:Rn} {S S':St} {w w':World} {env:Gv} {e:Env} {xs:List Operand} {P:Program}
/-! ### Slices -/
def oInt (env : Gv) : Option Operand → Option (Option Int)
 | none=>some none
 | some x => match Ub env x with
  | some (.int _ i)=>some (some i)
  | _=>none
theorem oInt_ok {o:Option Operand} {r:Option Int} (h:oInt env o=some r) (ho:Hb ρ w env e xs) (hx:∀ x,o=some x→x ∈ xs):(o=none∧r=none) ∨ ∃ x k i,o=some x∧r=some i∧ev e x=.int k i:=by
 cases o with
 | none=>simp only [oInt,Option.some.injEq] at h; exact .inl ⟨rfl,h.symm⟩
 | some x=>
  simp only [oInt] at h
  split at h
  ·rename_i k i hi
   simp only [Option.some.injEq] at h
   exact .inr ⟨x,k,i,rfl,h.symm,Kf hi ho (hx x rfl)⟩
  ·cases h
def inB (i:Int) (n:Nat):Option Nat:=bif decide (0 ≤ i) && decide (i ≤ n) then some i.toNat else none
theorem inB_ok {i:Int} {n m:Nat} (h:inB i n=some m):0 ≤ i∧i ≤ n∧m=i.toNat∧m ≤ n:=by
 unfold inB at h
 cases hd:(decide (0 ≤ i) && decide (i ≤ (n:Int))) with
 | false=>rw [hd] at h; cases h
 | true=>
  rw [hd] at h; simp only [cond_true,Option.some.injEq] at h
  simp only [Bool.and_eq_true,decide_eq_true_eq] at hd
  omega
theorem Pp {k:IntKind} {i:Int} {n n' m:Nat} {code:BoundsCode} (h:inB i n=some m) (hn:n ≤ n') (w:World):(Instr.sliceBound (.int k i) n' code).run P w=.ok m w:=by
 obtain ⟨h1,h2,rfl,_⟩:=inB_ok h
 have h3:i ≤ (n':Int):=by omega
 simp [Instr.sliceBound,asIntOf,h1,h3]
def cutM (len : Nat) (cap : Option Nat) : Option Int → Option (Option Nat)
 | none=>some cap
 | some i=>(inB i (cap.getD len)).map some
def cutH (len : Nat) (m : Option Nat) (mx : Option Int) : Option Int → Option Nat
 | none=>bif mx.isNone then some len else none
 | some i=>inB i (m.getD len)
def cutL (h : Nat) : Option Int → Option Nat
 | none=>some 0
 | some i=>inB i h
def cutB (len:Nat) (cap:Option Nat) (lo hi mx:Option Int):Option (Nat × Nat × Option Nat):=
 match cutM len cap mx with
 | none=>none
 | some m => match cutH len m mx hi with
  | none=>none
  | some h=>(cutL h lo).map fun l=>(l,h,m)
theorem Li {len c : Nat} {cap m : Option Nat} {lo hi mx : Option Int} {l h : Nat} (hb : cutB len cap lo hi mx = some (l, h, m)) (hc : len ≤ c) (hcap : ∀ c0, cap = some c0 → c = c0) {vlo vhi vmx : Option Value} {sl : Bool}
    (h1:(lo=none∧vlo=none) ∨ ∃ k i,lo=some i∧vlo=some (.int k i)) (h2:(hi=none∧vhi=none) ∨ ∃ k i,hi=some i∧vhi=some (.int k i)) (h3:(mx=none∧vmx=none) ∨ ∃ k i,mx=some i∧vmx=some (.int k i)) :
    ∃ m',(∀ w,(Instr.sliceBounds sl len c vlo vhi vmx).run P w=.ok (l,h,m') w)∧l ≤ h∧h ≤ m'∧m' ≤ c∧(∀ m0,m=some m0→m'=m0)∧(m=none→h ≤ len∧m'=c):=by
  unfold cutB at hb
  split at hb
  · cases hb
  rename_i m1 hm1
  split at hb
  · cases hb
  rename_i h' hh'
  simp only [Option.map_eq_some_iff,Prod.mk.injEq] at hb
  obtain ⟨l',hl',rfl,rfl,rfl⟩:=hb
  have hcd:cap.getD len ≤ c:=by
    cases cap with
    | none=>exact hc
    | some c0=>have:=hcap c0 rfl; simp; omega
  obtain ⟨m', hm', hm0, hmn, hmrun⟩ : ∃ m', m' ≤ c ∧ (∀ m0, m1 = some m0 → m' = m0) ∧ (m1 = none → m' = c) ∧ ∀ w, (match vmx with
      | some v=>Instr.sliceBound v c (if sl=true then .slice3Acap else .slice3Alen)
      | none=>(pure c:Sem Nat)).run P w=.ok m' w:=by
    rcases h3 with ⟨rfl,rfl⟩ | ⟨k,i,rfl,rfl⟩
    · simp only [cutM, Option.some.injEq] at hm1; subst hm1
      exact ⟨c,Nat.le_refl _,hcap,fun _=>rfl,fun w=>rfl⟩
    · simp only [cutM, Option.map_eq_some_iff] at hm1
      obtain ⟨a,ha,rfl⟩:=hm1
      have:=(inB_ok ha).2.2.2
      exact ⟨a,by omega,fun m0 h=>by injection h,(fun h=>by cases h),fun w=>Pp ha hcd w⟩
  have hmd:(m1.getD len:Nat) ≤ m':=by
    cases m1 with
    | none=>have:=hmn rfl; simp; omega
    | some m2=>have:=hm0 m2 rfl; simp; omega
  obtain ⟨hhm, hhn, hhrun⟩ : h' ≤ m' ∧ (m1 = none → h' ≤ len) ∧ ∀ w, (match vhi, vmx with
      | some v,some _=>Instr.sliceBound v m' .slice3B
      | some v,none=>Instr.sliceBound v m' (if sl=true then .sliceAcap else .sliceAlen)
      | none,none=>(pure len:Sem Nat)
      | none, some _ => stuck "Slice: max without high").run P w = .ok h' w := by
    rcases h2 with ⟨rfl,rfl⟩ | ⟨k,i,rfl,rfl⟩
    · rcases h3 with ⟨rfl, rfl⟩ | ⟨k, i, rfl, rfl⟩
      · simp only [cutH, Option.isNone_none, cond_true, Option.some.injEq] at hh'; subst hh'
        refine ⟨?_,fun _=>Nat.le_refl _,fun w=>rfl⟩
        simp only [cutM,Option.some.injEq] at hm1; subst hm1
        cases cap with
        | none=>have:=hmn rfl; omega
        | some c0=>have:=hm0 c0 rfl; have:=hcap c0 rfl; omega
      · simp [cutH] at hh'
    · simp only [cutH] at hh'
      have h5:=inB_ok hh'
      refine ⟨by omega,fun hn=>by subst hn; simpa using h5.2.2.2,fun w=>?_⟩
      rcases h3 with ⟨rfl,rfl⟩ | ⟨k',i',rfl,rfl⟩ <;> exact Pp hh' hmd w
  obtain ⟨hlh, hlrun⟩ : l' ≤ h' ∧ ∀ w, (match vlo with
      | some v=>Instr.sliceBound v h' (if vmx.isSome=true then .slice3C else .sliceB)
      | none=>(pure 0:Sem Nat)).run P w=.ok l' w:=by
    rcases h1 with ⟨rfl,rfl⟩ | ⟨k,i,rfl,rfl⟩
    · simp only [cutL,Option.some.injEq] at hl'; subst hl'; exact ⟨Nat.zero_le _,fun w=>rfl⟩
    · simp only [cutL] at hl'
      exact ⟨(inB_ok hl').2.2.2,fun w=>Pp hl' (Nat.le_refl _) w⟩
  refine ⟨m',fun w=>?_,hlh,hhm,hm',hm0,fun hn=>⟨hhn hn,hmn hn⟩⟩
  have a1:=hmrun w
  have a2:=hhrun w
  have a3:=hlrun w
  unfold Instr.sliceBounds
  clear hmrun hhrun hlrun h1 h2 h3
  cases vmx <;> cases vhi <;> cases vlo <;> simp only at a1 a2 a3 ⊢ <;> (try simp only [Option.isSome_none, Option.isSome_some, Bool.false_eq_true, if_false, if_true] at a3) <;> (try simp only [Option.isSome_none, Option.isSome_some, Bool.false_eq_true, if_false, if_true]) <;> first
    | (exfalso; simp [stuck] at a2; done)
    | (simp [Sem.run_bind,a1,a2,a3]; done)
    | (simp only [Sem.run_bind,a1,Result.andThen_ok,a2,a3,Sem.run_pure]; done)
    | (simp only [Sem.run_pure,Result.ok.injEq,and_true] at a1 a2 a3; subst a1 a2 a3; simp [Sem.run_bind])
    | (simp only [Sem.run_pure,Result.ok.injEq,and_true] at a2 a3; subst a2 a3; simp [Sem.run_bind,a1])
    | (simp only [Sem.run_pure,Result.ok.injEq,and_true] at a1 a3; subst a1 a3; simp [a2])
    | (simp only [Sem.run_pure,Result.ok.injEq,and_true] at a1 a2; subst a1 a2; simp [a3])
    | (simp only [Sem.run_pure,Result.ok.injEq,and_true] at a1; subst a1; simp [Sem.run_bind,a2,a3])
    | (simp only [Sem.run_pure,Result.ok.injEq,and_true] at a2; subst a2; simp [Sem.run_bind,a1,a3])
    | (simp only [Sem.run_pure,Result.ok.injEq,and_true] at a3; subst a3; simp [Sem.run_bind,a1,a2])
end
end
end Go.Proofs.Ytplaipkjhlkjgaa
/- A machine of plain data: slices, literals, parts, lengths, and that the model does the same. No program is named here. -/
namespace Go.Proofs.Ytplaipkjhlkjgaa
noncomputable section
open Go.RowKit
section
variable {cx:Cx} {base:Nat} {ρ:Rn} {S S':St} {w w':World} {env:Gv} {e:Env} {xs:List Operand} {P:Program}
/-! ### Cuts of slices and arrays -/
def cutOf (b off l h z:Nat) (m:Option Nat):AV:=
 bif Nat.beq l h && !Nat.beq l 0 then .v false [.e (match m with | some m=>Nat.beq m l | none=>false)] else .v false [.s b (off + l * z) (h - l) (m.map (· - l)) z]
def aSlice (P:Program) (cx:Cx) (S:St) (env:Gv) (t:TypeId) (x:Operand) (lo hi mx:Option Operand):Option AV:=
 match aop env x,P.underlying t,oInt env lo,oInt env hi,oInt env mx with
 | some (.v false [.s b off len cap z]),some (.slice el),some l,some h,some m=>
  match (P.info? el),cutB len cap l h m with
  | some ti,some (l,h,m)=>bif Nat.beq ti.size z then some (cutOf b off l h z m) else none
  | _,_=>none
 | some (.v false [.p b off]),some (.array n el),some l,some h,some m=>
  match (P.info? el),cutB n (some n) l h m,S.look cx b with
  | some ti,some (l,h,m),some (.cells cs _)=>bif Nat.ble (off + n * ti.size) cs.length && Nat.blt 0 cs.length && Nat.ble n 4294967296 then some (cutOf b off l h ti.size m) else none
  | _,_,_=>none
 | some (.v false [.k (.slice none 0 0)]),some (.slice el),some l,some h,some m=>
  match P.info? el,cutB 0 (some 0) l h m with
  | some _,some (0,0,_)=>some (.v false [.k (.slice none 0 0)])
  | _,_=>none
 | some (.v false [.e full]),some (.slice el),some l,some h,some m=>
  match P.info? el,cutB 0 (bif full then some 0 else none) l h m with
  | some _,some (0,0,m)=>some (.v false [.e (full || (match m with | some m=>Nat.beq m 0 | none=>false))])
  | _,_=>none
 | _,_,_,_,_=>none
theorem oI {o:Option Operand} {r:Option Int} (h:oInt env o=some r) (ho:Hb ρ w env e xs) (hx:∀ x,o=some x→x ∈ xs):(r=none∧o.map (ev e)=none) ∨ ∃ k i,r=some i∧o.map (ev e)=some (.int k i):=by
 rcases oInt_ok h ho hx with ⟨rfl,rfl⟩ | ⟨x,k,i,rfl,rfl,h3⟩
 ·exact .inl ⟨rfl,rfl⟩
 ·exact .inr ⟨k,i,rfl,by simp [h3]⟩
theorem cutOf_ok {b off len l h z c m' : Nat} {y : Nat × Nat} {m : Option Nat} {arr : Array Value} {el : TypeId} (hy : ρ b = some y) (hh : w.heap[y.1]? = some (.cells arr el (0, 0))) (hroom : y.2 + off + c * z ≤ arr.size) (hcm : c ≤ maxLen)
  (k1:l ≤ h) (k2:h ≤ m') (k3:m' ≤ c) (k4:∀ m0,m=some m0→m'=m0) :
  VR ρ w (cutOf b off l h z m) (.slice (if m'=l then some ⟨y.1,y.2 + off,none⟩ else some ((⟨y.1,y.2 + off,none⟩:Addr).add (l * z))) (h - l) (m' - l)):=by
 unfold cutOf
 cases hc:(Nat.beq l h && !Nat.beq l 0) with
 | true=>
  simp only [cond_true]
  simp only [Bool.and_eq_true] at hc
  have hlh:=Nat.eq_of_beq_eq_true hc.1
  subst hlh
  rw [Nat.sub_self]
  refine V1.of ⟨if m'=l then ⟨y.1,y.2 + off,none⟩ else (⟨y.1,y.2 + off,none⟩:Addr).add (l * z),m' - l,by split <;> rfl,fun hf=>?_⟩
  cases m with
  | none=>cases hf
  | some m0=>have h1:=Nat.eq_of_beq_eq_true hf; have:=k4 m0 rfl; omega
 | false=>
  simp only [cond_false]
  have hadd:(if m'=l then some (⟨y.1,y.2 + off,none⟩:Addr) else some ((⟨y.1,y.2 + off,none⟩:Addr).add (l * z)))=some ⟨y.1,y.2 + (off + l * z),none⟩:=by
   split
   ·rename_i hml
    have hlh:l=h:=by omega
    have hl0:l=0:=by
     cases h0:Nat.beq l 0 with
     | true=>exact Nat.eq_of_beq_eq_true h0
     | false=>rw [h0,← hlh] at hc; simp at hc
    subst hl0; simp
   ·rw [Qr,Nat.add_assoc]
  rw [hadd]
  refine V1.of ⟨y,m' - l,hy,rfl,by omega,by omega,fun c0 hc0=>?_,arr,el,hh,?_⟩
  ·cases m with
   | none=>cases hc0
   | some m3=>have:=k4 m3 rfl; simp at hc0; omega
  ·have : (m' - l) * z + l * z ≤ c * z := by rw [← Nat.add_mul]; exact Nat.mul_le_mul_right _ (by omega)
   omega
theorem aSlice_ok (hs:Sim cx base ρ S w) {o:Oper} {t:TypeId} {x:Operand} {lo hi mx:Option Operand} {a:AV} (hop:o.op=.slice t x lo hi mx) (ho:Hb ρ w env e o.op.operands.toList) (h:aSlice P cx S env t x lo hi mx=some a):Hi cx base ρ S w a S ((execOp (ev e) o).run P w):=by
 have hmem:x ∈ o.op.operands.toList∧(∀ y,lo=some y→y ∈ o.op.operands.toList)∧(∀ y,hi=some y→y ∈ o.op.operands.toList)∧(∀ y,mx=some y→y ∈ o.op.operands.toList):=by
  rw [hop]; refine ⟨by simp [Op.operands],?_,?_,?_⟩ <;> (rintro y rfl; simp [Op.operands])
 unfold aSlice at h
 split at h
 ·rename_i b off len cap z el l h' m hx hu hl hh hm
  split at h
  ·rename_i ti l2 h2 m2 hti hcut
   cases hz:Nat.beq ti.size z with
   | false=>rw [hz] at h; cases h
   | true=>
    rw [hz] at h; simp only [cond_true,Option.some.injEq] at h; subst h
    have hz':=Nat.eq_of_beq_eq_true hz
    obtain ⟨y,c,hy,hv,hlc,hcm,hcap,arr,el2,hh2,hroom⟩:=V1.one (Qa hx ho hmem.1)
    obtain ⟨m',hrun,k1,k2,k3,k4,k5⟩:=Li (P:=P) (sl:=true) hcut hlc hcap (oI hl ho hmem.2.1) (oI hh ho hmem.2.2.1) (oI hm ho hmem.2.2.2)
    refine Ti hs ?_ (cutOf_ok (len:=len) hy hh2 hroom hcm k1 k2 k3 k4)
    simp [execOp,hop,Instr.sliceAt,Instr.slice,hv,run_underlying hu,Sem.run_bind,Result.andThen,hrun,sizeOf,typeInfo,hti,hz']
  ·cases h
 ·rename_i b off n el l h' m hx hu hl hh hm
  split at h
  ·rename_i ti l2 h2 m2 cs el2 hti hcut hlook
   cases hz:(Nat.ble (off + n * ti.size) cs.length && Nat.blt 0 cs.length && Nat.ble n 4294967296) with
   | false=>rw [hz] at h; cases h
   | true=>
    rw [hz] at h; simp only [cond_true,Option.some.injEq] at h; subst h
    simp only [Bool.and_eq_true] at hz
    have hz1:=Nat.le_of_ble_eq_true hz.1.1
    have hz2:1 ≤ cs.length:=Nat.le_of_ble_eq_true hz.1.2
    have hz3:=Nat.le_of_ble_eq_true hz.2
    obtain ⟨y,hy,hv⟩:=V1.one (Qa hx ho hmem.1)
    obtain ⟨y',hy',⟨arr,vs,hh2,hr,hc⟩,_⟩:=Dk hs hlook
    rw [hy] at hy'; injection hy' with hy'; subst hy'
    have hlen:=hr.len
    have hsz:=Un hc (by omega)
    obtain ⟨m',hrun,k1,k2,k3,k4,k5⟩:=Li (P:=P) (sl:=false) hcut (Nat.le_refl n) (fun c0 h=>by injection h) (oI hl ho hmem.2.1) (oI hh ho hmem.2.2.1) (oI hm ho hmem.2.2.2)
    refine Ti hs ?_ (cutOf_ok (len:=n) (c:=n) hy hh2 (by omega) (by simp only [maxLen]; omega) k1 k2 k3 k4)
    simp only [execOp,hop,Instr.sliceAt,hv,run_underlying hu,Sem.run_bind,Result.andThen_ok,Instr.sureAddr,Sem.run_pure,hrun]
    simp only [sizeOf,typeInfo,Sem.run_bind,run_program,Result.andThen_ok,hti,Sem.run_pure]
    by_cases hml:m'=l2 <;> simp [hml]
  ·cases h
 ·rename_i el l h' m hx hu hl hh hm
  split at h
  ·rename_i ti m2 hti hcut
   simp only [Option.some.injEq] at h; subst h
   have hv:=(V1.one (Qa hx ho hmem.1)).1
   obtain ⟨m',hrun,k1,k2,k3,k4,k5⟩:=Li (P:=P) (sl:=true) hcut (Nat.le_refl 0) (fun c0 h=>by injection h) (oI hl ho hmem.2.1) (oI hh ho hmem.2.2.1) (oI hm ho hmem.2.2.2)
   have:m'=0:=by omega
   subst this
   refine Ti (v:=.slice none 0 0) hs ?_ (V1.of ⟨rfl,rfl⟩)
   simp [execOp,hop,Instr.sliceAt,Instr.slice,hv,run_underlying hu,Sem.run_bind,Result.andThen,hrun,sizeOf,typeInfo,hti]
  ·cases h
 ·rename_i full el l h' m hx hu hl hh hm
  split at h
  ·rename_i ti m2 hti hcut
   simp only [Option.some.injEq] at h; subst h
   obtain ⟨ad,c,hv,hfull⟩:=V1.one (Qa hx ho hmem.1)
   obtain ⟨m',hrun,k1,k2,k3,k4,k5⟩:=Li (P:=P) (sl:=true) (c:=c) hcut (Nat.zero_le _) (fun c0 h=>by cases full <;> simp at h; subst h; exact hfull rfl) (oI hl ho hmem.2.1) (oI hh ho hmem.2.2.1) (oI hm ho hmem.2.2.2)
   refine Ti (v:=.slice (if m'=0 then some ad else some (ad.add (0 * ti.size))) 0 m') hs ?_ (V1.of ⟨if m'=0 then ad else ad.add (0 * ti.size),m',by split <;> rfl,fun hf=>?_⟩)
   ·simp [execOp,hop,Instr.sliceAt,Instr.slice,hv,run_underlying hu,Sem.run_bind,Result.andThen,hrun,sizeOf,typeInfo,hti]
   ·simp only [Bool.or_eq_true] at hf
    rcases hf with hf | hf
    ·have:=hfull hf; omega
    ·cases m2 with
     | none=>cases hf
     | some m0=>have h1:=Nat.eq_of_beq_eq_true hf; have:=k4 m0 rfl; omega
  ·cases h
 ·cases h
end
end
end Go.Proofs.Ytplaipkjhlkjgaa
