/- Laws of plain functions, part 2. -/
import Derived.Test.YtplaipkjhlkjgaaFtN1
set_option maxRecDepth 8000
namespace Go.Proofs.Ytplaipkjhlkjgaa
open Go.RowKit
open Classical
theorem arm_isF (x:Jo):Yes (f4 x) ArmF:=by
 unfold f4
 refine Yes.bind (Yes.mono (arm_harnessF x) fun h hh=>Yes.bind (Yes.mono (arm_designF x) fun d hd=>Yes.some ?_))
 obtain ⟨a1,a2,a3,a4⟩:=hh
 obtain ⟨b1,b2,b3,b4⟩:=hd
 have hr0:0 ≤ ((x.Hooks.toNat:Nat):Int) % 12∧((x.Hooks.toNat:Nat):Int) % 12 < 12:=⟨Int.emod_nonneg _ (by omega),Int.emod_lt_of_pos _ (by omega)⟩
 refine ⟨?_,b3,b2,a2,a3,by simp only; omega,by simp only; omega,by simp only; omega⟩
 have t:Vc h=0:=by
  unfold Vc
  rw [if_pos (by simp [Wl]; omega),if_neg (by omega),if_neg (by omega),if_pos]
  exact List.all_eq_true.2 fun w hw=>by have:=a4 w hw; simp [Wl]; omega
 have e:Uz d=0:=by
  unfold Uz
  rw [if_pos (by simp [Wl]; omega),if_neg (by omega),if_neg (by omega),if_pos]
  exact List.all_eq_true.2 fun w hw=>by have:=b4 w hw; simp [Wl]; omega
 unfold Uv
 simp only [t,e]
 rw [if_neg (fun h=>h rfl),if_neg (fun h=>h rfl),if_neg (by omega)]
theorem copy_isF (l:FaultLoom) (h1:l.Harness.Warps.length ≤ 1000) (h2:l.Design.Rows.length ≤ 1000):f6 l=some l:=by
 have ha:∀ xs:List Int,xs.length ≤ 1000→f20 xs=some xs:=fun xs h=>by
  unfold f20
  exact Yes.eq (Yes.bind (Yes.apnd (by simp; omega) (by simp; omega) (Yes.some (by simp))))
 unfold f6 f11 f7
 rw [ha _ h1,ha _ h2]
 rfl
theorem line_sameF {m:Nat} {c c':Nat→Bool} (h:∀ w,w < m→c w=c' w):Hz m c=Hz m c':=by
 unfold Hz
 congr 1
 exact List.map_congr_left fun w hw=>by rw [h w (List.mem_range.1 hw)]
theorem s11F (xs:List Int) (h:xs.length ≤ 1000):f20 xs=some xs:=by
 unfold f20
 exact Yes.eq (Yes.bind (Yes.apnd (by simp; omega) (by simp; omega) (Yes.some (by simp))))
theorem s30F (h:TieHarness) (h1:h.Warps.length ≤ 1000):f11 h=some h:=by unfold f11; rw [s11F _ h1]; rfl
theorem s31F (d:Design) (h1:d.Rows.length ≤ 1000):f7 d=some d:=by unfold f7; rw [s11F _ h1]; rfl
theorem s32L (xs ys:List Str) (hx:xs.length < 9223372036854775807):f12 xs ys=some (decide (xs=ys)):=by
 refine Yes.eq ?_
 unfold f12
 refine Yes.jn (Yes.cond (fun h=>Yes.some (same_noF h)) (fun h=>?_))
 have hl:=same_lenF h
 refine Yes.jn (Yes.upto0 xs.length hx (fun i=>SameF xs ys i) (same_zeroF xs ys) (fun i k hi hI hk=>?_) (fun k hI=>?_))
 ·exact Yes.jn (Yu (decide_eq_true (by omega)) (Yes.jn (same_stepF str_neF hl hi hI hk)))
 ·exact Yes.jn (Hn (decide_eq_false (by omega)) (Yes.some (same_endF hl hI)))
theorem arm_faultL:f15=some true:=by kernel_rfl
theorem cloth_congrL {n m:Nat} {c c':Nat→Nat→Bool} (h:∀ p w,p < n→w < m→c p w=c' p w):Wb n m c=Wb n m c':=by
 unfold Wb
 refine List.map_congr_left fun p hp=>line_sameF fun w hw=>h p w (List.mem_range.1 hp) hw
end Go.Proofs.Ytplaipkjhlkjgaa
/- TopNeedleFloat's law: a needle that sticks. -/
set_option maxRecDepth 8000
namespace Go.Proofs.Ytplaipkjhlkjgaa
open Go.RowKit
open Classical

theorem xor64N {a b:Nat} (ha:a < 2 ^ 62) (hb:b < 2 ^ 62):Tf .xor a b=((a ^^^ b:Nat):Int):=by
 have hx:a ^^^ b < 2 ^ 62:=Nat.xor_lt_two_pow ha hb
 unfold Tf
 simp only [BitVec.toNat_xor,Jl ha,Jl hb]
 rw [Ly] at hx
 exact Km (by omega) (by omega)
def stk (l:FaultLoom) (hook:Nat) (up:Bool) (i:Nat):Nat→Nat→Bool:=fun p h=>if p < i∧h=hook then up else Fg l p h
theorem stk_all {l:FaultLoom} {hook:Nat} {up:Bool} {n p h:Nat} (hp:p < n):stk l hook up n p h=Yv hook up (Fg l) p h:=by
 unfold stk Yv
 by_cases hh:h=hook
 ·rw [if_pos ⟨hp,hh⟩,if_pos hh]
 ·rw [if_neg (fun x=>hh x.2),if_neg hh]
theorem lt62H {H h:Nat} (hH:H ≤ 24) (hh:h < H):2 ^ h < 2 ^ 62:=Dz hH (Nat.pow_lt_pow_right (by decide) hh)
theorem stuckN {l : FaultLoom} (g : Xg l) {hook : Nat} (hh : hook < l.Design.Hooks.toNat) (up : Bool) {Q : Design → Prop}
  {body:(Design × Int→Option Design)→Design × Int→Option Design}
  (hbody:∀ k m s,body k (m,s)=(jn (σ:=Unit) (fun _=>Option.bind (α:=Design) (
    (idx m.Rows s).bind fun y135=>(Hj (1:Int) ((Qo (hook:Int)))).bind fun y139=>
    bif (!up) then
     (idx ((({ m with Rows:=(List.set m.Rows (Int.toNat s) (Tf .or y135 y139)) }:Design)).Rows) s).bind fun y146=>
     (Hj (1:Int) ((Qo (hook:Int)))).bind fun y149=>
     some (({ (({ m with Rows:=(List.set m.Rows (Int.toNat s) (Tf .or y135 y139)) }:Design)) with Rows:=(List.set ((({ m with Rows:=(List.set m.Rows (Int.toNat s) (Tf .or y135 y139)) }:Design)).Rows) (Int.toNat s) (Tf .xor y146 y149)) }:Design))
    else some (({ m with Rows:=(List.set m.Rows (Int.toNat s) (Tf .or y135 y139)) }:Design))) fun m12=>k (m12,(w64 (s + (1:Int))))) fun k109=>
   bif (decide (s < (((l.Design).Rows).length:Int))) then k109 () else some m))
  (hq:∀ rows,TbF l.Design.Hooks.toNat l.Design.Rows.length rows (Yv hook up (Fg l))→Q ⟨l.Design.Hooks,rows⟩):Yes (lp (σ:=Design × Int) body big (l.Design,0)) Q:=by
 have h24:=g.h24
 have hr:=g.r1
 refine Yes.upto (σ:=Design) l.Design.Rows.length (by omega) (fun i s=>s.Hooks=l.Design.Hooks∧TbF l.Design.Hooks.toNat l.Design.Rows.length s.Rows (stk l hook up i)) ⟨rfl,?_⟩ (fun i s k hi hI hk=>?_) (fun s k hI=>?_)
 ·refine ⟨rfl, fun p hp => ?_⟩
  obtain ⟨a,h1,h2,h3⟩:=(Es g).2 p hp
  exact ⟨a,h1,h2,fun h hh=>by rw [h3 h hh]; unfold stk; rw [if_neg (fun x=>absurd x.1 (Nat.not_lt_zero _))]⟩
 ·obtain ⟨e, ht⟩ := hI
  have his:i < s.Rows.length:=by rw [ht.1]; exact hi
  obtain ⟨a,ha,ha2,ha3⟩:=ht.2 i his
  have h62:=Dz (by omega:l.Design.Hooks.toNat ≤ 24) ha2
  have p62:=lt62H (by omega:l.Design.Hooks.toNat ≤ 24) hh
  have hshl:Hj (1:Int) (Qo (hook:Int))=some ((2 ^ hook:Nat):Int):=by rw [wu64_idF (by omega) (by omega)]; exact shl_bitN (by omega)
  have horlt:a ||| 2 ^ hook < 2 ^ l.Design.Hooks.toNat:=Nat.or_lt_two_pow ha2 (Nat.pow_lt_pow_right (by decide) hh)
  have hor62:=Dz (by omega:l.Design.Hooks.toNat ≤ 24) horlt
  have hor:Tf .or (a:Int) ((2 ^ hook:Nat):Int)=((a ||| 2 ^ hook:Nat):Int):=or64N h62 p62
  have hbit:∀ h,(2 ^ hook).testBit h=decide (hook=h):=fun h=>by rw [Nat.testBit_two_pow]
  have hbef:∀ h,h < l.Design.Hooks.toNat→a.testBit h=Fg l i h:=fun h hh'=>by rw [ha3 h hh']; unfold stk; rw [if_neg (fun x=>absurd x.1 (Nat.lt_irrefl _))]
  have hoth:∀ q h,q ≠ i→h < l.Design.Hooks.toNat→stk l hook up (i + 1) q h=stk l hook up i q h:=fun q h hq' _=>by
   unfold stk
   by_cases hc:q < i∧h=hook
   ·rw [if_pos hc,if_pos ⟨by omega,hc.2⟩]
   ·rw [if_neg hc,if_neg (fun x=>hc ⟨by omega,x.2⟩)]
  rw [hbody]
  refine Yes.jn (Yu (decide_eq_true (by omega)) (Yes.bind (Qt _ (Ll his) (Qt _ hshl ?_))))
  rw [ha,hor,Int.toNat_natCast]
  cases up with
  | true=>
   refine Hn rfl (Yes.some (hk _ ⟨e,ht.set horlt (fun h hh'=>?_) hoth⟩))
   rw [Nat.testBit_or,hbit,hbef h hh']
   unfold stk
   by_cases hc:h=hook
   ·subst hc; simp
   ·have hc' : ¬ hook = h := fun x => hc x.symm
    simp [hc,hc']
  | false=>
   have hset:(s.Rows.set i ((a ||| 2 ^ hook:Nat):Int)).length=s.Rows.length:=List.length_set
   have hi2:i < (s.Rows.set i ((a ||| 2 ^ hook:Nat):Int)).length:=by rw [hset]; exact his
   refine Yu rfl (Qt _ (Ll hi2) (Qt _ hshl (Yes.some (hk _ ⟨e,?_⟩))))
   rw [List.getElem_set_self,xor64N hor62 p62,List.set_set]
   refine ht.set (Nat.xor_lt_two_pow horlt (Nat.pow_lt_pow_right (by decide) hh)) (fun h hh'=>?_) hoth
   rw [Nat.testBit_xor,Nat.testBit_or,hbit,hbef h hh']
   unfold stk
   by_cases hc:h=hook
   ·subst hc; simp
   ·have hc' : ¬ hook = h := fun x => hc x.symm
    simp [hc,hc']
 ·rw [hbody]
  refine Yes.jn (Hn (decide_eq_false (by omega)) (Yes.some ?_))
  obtain ⟨H,rows⟩:=s
  obtain ⟨e,ht⟩:=hI
  simp only at e ht
  subst e
  refine hq rows ⟨ht.1,fun p hp=>?_⟩
  obtain ⟨a,h1,h2,h3⟩:=ht.2 p hp
  exact ⟨a,h1,h2,fun h hh'=>by rw [h3 h hh']; exact stk_all (by rw [← ht.1]; exact hp)⟩
end Go.Proofs.Ytplaipkjhlkjgaa
/- TopNeedleFloat's law: the statement. -/
set_option maxRecDepth 8000
namespace Go.Proofs.Ytplaipkjhlkjgaa
open Go.RowKit
open Classical

theorem arm_tieN:f14=some true:=by kernel_rfl
theorem des_of {l:FaultLoom} (g:Xg l) {rows:List Int} {t:Nat→Nat→Bool} (ht:TbF l.Design.Hooks.toNat l.Design.Rows.length rows t):DesN ⟨l.Design.Hooks,rows⟩:=by
 have:=g.h1; have:=g.h24; have:=g.r0; have:=g.r1; have:=ht.1
 refine ⟨⟨by simp only; omega,by simp only; omega⟩,⟨by simp only; omega,by simp only; omega⟩,fun x hx=>?_⟩
 obtain ⟨p,hp,rfl⟩:=List.getElem_of_mem hx
 obtain ⟨a,ha,ha2,_⟩:=ht.2 p hp
 have h2:=Aw (by omega:l.Design.Hooks.toNat ≤ 24) ha2
 rw [show (2:Nat) ^ 24=16777216 by decide] at h2
 rw [ha]; omega
theorem hkR_at {l:FaultLoom} {rows:List Int} {hook:Nat} {up:Bool} (hh:hook < l.Design.Hooks.toNat) (ht:TbF l.Design.Hooks.toNat l.Design.Rows.length rows (Yv hook up (Fg l))) {p:Nat} (hp:p < (hkR ⟨l.Design.Hooks,rows⟩ hook).length):(hkR ⟨l.Design.Hooks,rows⟩ hook)[p]=up:=by
 have hp':p < rows.length:=by simpa [hkR] using hp
 obtain ⟨a,ha,_,h3⟩:=ht.2 p hp'
 have h4:=h3 hook hh
 simp only [hkR,List.getElem_map,ha,Int.toNat_natCast,h4,Yv,if_true]
theorem hkR_const {l:FaultLoom} {rows:List Int} {hook:Nat} {up:Bool} (hh:hook < l.Design.Hooks.toNat) (ht:TbF l.Design.Hooks.toNat l.Design.Rows.length rows (Yv hook up (Fg l))):Ev (hkR ⟨l.Design.Hooks,rows⟩ hook):=fun i hi=>by
 have hm:(i + (hkR ⟨l.Design.Hooks,rows⟩ hook).length - 1) % (hkR ⟨l.Design.Hooks,rows⟩ hook).length < (hkR ⟨l.Design.Hooks,rows⟩ hook).length:=Nat.mod_lt _ (by omega)
 unfold bg
 rw [List.getD_eq_getElem?_getD,List.getD_eq_getElem?_getD,List.getElem?_eq_getElem hi,List.getElem?_eq_getElem hm]
 simp only [Option.getD_some,hkR_at hh ht]
 simp
theorem s3 (x0:Jo) (x1:UInt8) (x2:Bool):f3 x0 x1 x2=some true:=by
 refine Yes.eq ?_
 unfold f3
 refine Yes.bind ((arm_isF x0).mono fun l ha=>?_)
 have g:=Ok ha.ok
 have hn10:=ha.r10
 have hn1:=ha.r1
 have hw30:=ha.w30
 have hw1:=ha.w1
 have hHH:=ha.hkF
 obtain ⟨H,hH⟩:∃ H:Nat,l.Design.Hooks=H:=⟨l.Design.Hooks.toNat,by omega⟩
 obtain ⟨hook,hhk,hlt⟩:∃ k,x1.toNat % H=k∧k < H:=⟨_,rfl,Nat.mod_lt _ (by omega)⟩
 have hhN:hook < l.Design.Hooks.toNat:=by omega
 refine Qt (hook:Int) (by rw [hH,← hhk]; exact nrem (by omega)) ?_
 refine Qt _ (copy_isF l (by omega) (by omega)) ?_
 have hd:Ce l ⟨2,0,(hook:Int),0,x2⟩=true:=by simp [Ce,Wl]; omega
 have ho1:Xu l [⟨2,0,(hook:Int),0,x2⟩] (l.Design.Rows.length:Int)=0:=open_okF (chk_okF ha.ok (by simp) (fun d h=>by rw [List.mem_singleton.1 h]; exact hd)) (by omega) (by omega)
 have b1:=s19F (s78_oneF ⟨2,0,(hook:Int),0,x2⟩) (by simp) (fun d h=>by rw [List.mem_singleton.1 h]; exact hd) ho1
 rw [Int.toNat_natCast] at b1
 have hcl:Nn l [⟨2,0,(hook:Int),0,x2⟩] l.Design.Rows.length=Wb l.Design.Rows.length l.Harness.Warps.length (fun p w=>Yv hook x2 (Fg l) p (hkF l w)):=by
  unfold Nn
  refine cloth_congrL fun p w hp _=>?_
  rw [Nat.mod_eq_of_lt hp,rc_oneF]
  simp [Ij,Ef]
 rw [hcl] at b1
 clear hcl ho1
 refine Qt _ b1 (Yes.jn ?_)
 clear b1
 refine Yes.bind (Hn rfl (Yes.some (Hn (by rw [Yd]; simp) ?_)))
 refine Qt _ (s31F _ (by omega)) (Yes.bind ?_)
 refine stuckN g hhN x2 (fun k m s=>rfl) fun rows ht=>?_
 have hdN:=des_of g ht
 have hrl:=ht.1
 have hcst:=hkR_const hhN ht
 have hck:f21 ⟨l.Design.Hooks,rows⟩=some 0:=by rw [s74F,desE_tbF g ht]
 have hlen:(hkR ⟨l.Design.Hooks,rows⟩ hook).length=rows.length:=by simp [hkR]
 have hfst:∀ h:0 < (hkR ⟨l.Design.Hooks,rows⟩ hook).length,(hkR ⟨l.Design.Hooks,rows⟩ hook)[0]=x2:=fun h=>hkR_at hhN ht h
 have hown:f7 ⟨l.Design.Hooks,rows⟩=some ⟨l.Design.Hooks,rows⟩:=s31F _ (by simp only; omega)
 refine Qt _ hown (Yes.bind ((s8 hdN hck (hook:=hook) (by simp only; omega) hcst hfst).mono fun fl hfl=>?_))
 obtain ⟨fl,fe⟩:=fl
 obtain ⟨rfl,hfl24,hmem⟩:=hfl
 replace hfl24:fl.length ≤ 24:=hfl24
 refine Qt _ hown ?_
 refine Yes.bind (Yes.mono (Q':=fun r:Gn × Int=>r.2=0∧(x2=true→r.1.WarpFace=1000)∧(x2=false→r.1.WarpBack=1000)) ?_ fun lo hlo=>?_)
 ·unfold f9
  refine Qt _ hck (Hn rfl (Yes.bind ((lg1 hdN).mono fun p _=>Yes.bind ((lg2 hdN (hook:=hook) (by simp only; omega) hcst hfst).mono fun q hq=>Yes.some ⟨rfl,hq.1,hq.2⟩))))
 obtain ⟨lo,le⟩:=lo
 obtain ⟨rfl,hlo1,hlo2⟩:=hlo
 refine Qt _ (s30F _ (by omega)) (Qt _ (s82F g ht) (Yes.jn ?_))
 refine Yes.bind (Hn rfl (Hn rfl (Hn rfl (Qt true ?_ (Yes.some (Hn rfl ?_))))))
 ·rw [s32L _ _ (by rw [Yd]; omega),decide_eq_true rfl]
 -- the float is named
 refine Yes.jn (Yes.bind (Yes.mono (Q':=fun b=>b=true) ?_ fun b hb=>?_))
 ·refine Yes.upto fl.length (by omega) (fun i b => b = decide ((⟨0, hook, 1000, x2⟩ : Gf) ∈ fl.take i)) (by simp) (fun i b K hi hI hK => ?_) (fun b K hI => ?_)
  ·refine Yes.jn (Yu (decide_eq_true (by show (i : Int) < (fl.length : Int); omega)) ?_)
   have hstep:decide ((⟨0,hook,1000,x2⟩:Gf) ∈ fl.take (i + 1))=(b || decide (fl[i]=⟨0,hook,1000,x2⟩)):=by
    rw [hI,List.take_succ_eq_append_getElem hi,← Bool.decide_or]
    congr 1
    simp only [List.mem_append,List.mem_singleton,eq_iff_iff]
    exact ⟨fun h=>h.imp id Eq.symm,fun h=>h.imp id Eq.symm⟩
   cases b with
   | true=>exact Yes.bind (Yu rfl (Yes.some (hK _ (by rw [hstep]; rfl))))
   | false=>exact Yes.bind (Hn rfl (Qt _ (Ll hi) (Yes.some (hK _ (by rw [hstep]; rfl)))))
  ·refine Yes.jn (Hn (decide_eq_false (by show ¬ ((fl.length : Int) < (fl.length : Int)); omega)) (Yes.some ?_))
   rw [hI,List.take_length]
   exact decide_eq_true hmem
 subst hb
 refine Yes.jn (Yes.bind (Yes.mono (Q':=fun b=>b=false) ?_ fun b hb=>?_))
 ·cases x2 with
  | true=>exact Yu rfl (Hn (by rw [hlo1 rfl]; rfl) (Hn rfl (Yes.some rfl)))
  | false=>exact Hn rfl (Yu rfl (Yes.some (by rw [hlo2 rfl]; rfl)))
 subst hb
 refine Hn rfl (Yes.jn ?_)
 -- pick by pick
 refine Yes.upto0 l.Design.Rows.length (by omega) (fun _=>True) trivial (fun i K hi _ hK=>?_) (fun K _=>?_)
 ·refine Yes.jn (Yu (decide_eq_true (by omega)) (Yes.jn ?_))
  refine Yes.upto0 l.Harness.Warps.length (by omega) (fun _=>True) trivial (fun w K2 hw _ hK2=>?_) (fun K2 _=>?_)
  ·refine Yes.jn (Yu (decide_eq_true (by omega)) (Yes.jn ?_))
   have hil:i < (Wb l.Design.Rows.length l.Harness.Warps.length (fun p w=>Yv hook x2 (Fg l) p (hkF l w))).length:=by rw [Yd]; exact hi
   have hwk:=hk_atF g hw
   refine Yes.bind (Yes.mono (Q':=fun b=>b=false) ?_ fun b hb=>?_)
   ·refine Qt _ (Ll hil) ?_
    rw [Po]
    refine Hn (by rw [Eh]; simp) (Qt _ (Ll hw) ?_)
    by_cases hwh:hkF l w=hook
    ·refine Yu (by rw [hwk.1, hwh]; simp) (Qt _ (Ll hil) ?_)
     rw [Po]
     have hwl:w < (Hz l.Harness.Warps.length (fun w=>Yv hook x2 (Fg l) i (hkF l w))).b.length:=by rw [Eh]; exact hw
     refine Qt _ (Ll hwl) (Yes.some ?_)
     rw [line_atF,show Yv hook x2 (Fg l) i (hkF l w)=x2 by simp [Yv,hwh]]
     cases x2 <;> rfl
    ·refine Hn (by rw [hwk.1]; simp; omega) (Yes.some rfl)
   ·subst hb
    exact Hn rfl (hK2 trivial)
  ·exact Yes.jn (Hn (decide_eq_false (by omega)) (hK trivial))
 ·refine Yes.jn (Hn (decide_eq_false (by omega)) ?_)
  exact Yes.bind (Yu rfl (Qt true rfl (Yu rfl (Qt true arm_tieN (Yu rfl (Qt true arm_faultL (Yes.some (Yes.some rfl))))))))
end Go.Proofs.Ytplaipkjhlkjgaa
