/- All functions of this text. -/
import Derived.Test.YtplaipkjhlkjgaaCode3
import Derived.Test.YtplaipkjhlkjgaaAp
/- TopNeedleFloat: the runs of a ring. -/
set_option maxRecDepth 8000
namespace Go.Proofs.Ytplaipkjhlkjgaa
open Go.RowKit
open Classical

theorem Sd {α:Type} {Q:α→Prop} {c:Bool} {X Y:Option α} (hc:c=false) (h:Yes Y Q):Yes (bif c then X else Y) Q:=by rw [hc]; exact h
theorem Rl {α:Type} {Q:α→Prop} {c:Bool} {X Y:Option α} (hc:c=true) (h:Yes X Q):Yes (bif c then X else Y) Q:=by rw [hc]; exact h
theorem Vf {α β:Type} {Q:β→Prop} {x:Option α} {f:α→Option β} (a:α) (h:x=some a) (k:Yes (f a) Q):Yes (x.bind f) Q:=by rw [h]; exact k
theorem nidx {α:Type} {xs:List α} {i:Nat} (h:i < xs.length):idx xs (i:Int)=some xs[i]:=by unfold idx; rw [if_pos (Int.natCast_nonneg i)]; exact List.getElem?_eq_getElem h
theorem nrem {a b:Nat} (hb:0 < b):Hy (a:Int) (b:Int)=some ((a % b:Nat):Int):=by
 unfold Hy
 rw [if_neg (by omega),Int.tmod_eq_emod_of_nonneg (Int.natCast_nonneg a)]; rfl
theorem nw64 {n:Int} (h1:-1000000000000 ≤ n) (h2:n ≤ 1000000000000):w64 n=n:=Km (by omega) (by omega)
def bg (r:List Bool) (i:Nat):Bool:=r.getD i false != r.getD ((i + r.length - 1) % r.length) false
variable {r:List Bool}
theorem s70 (h2:r.length ≤ 1000) {i:Nat} (h:i < r.length):f70 (i:Int) r=some (bg r i):=by
 have hm:(i + r.length - 1) % r.length < r.length:=Nat.mod_lt _ (by omega)
 have e1:w64 ((i:Int) + (r.length:Int))=(i:Int) + r.length:=nw64 (by omega) (by omega)
 have e2:w64 ((i:Int) + (r.length:Int) - 1)=((i + r.length - 1:Nat):Int):=by rw [nw64 (by omega) (by omega)]; omega
 refine Yes.eq ?_
 unfold f70
 rw [e1,e2]
 refine Vf _ (nidx h) (Vf _ (nrem (by omega)) (Vf _ (nidx hm) (Yes.some ?_)))
 unfold bg
 rw [List.getD_eq_getElem?_getD,List.getD_eq_getElem?_getD,List.getElem?_eq_getElem h,List.getElem?_eq_getElem hm]
 rfl
def RunOk (r:List Bool) (x:Qc):Prop:=1 ≤ x.length∧x.length ≤ r.length
theorem s44n (h2 : r.length ≤ 1000) (hb : ∃ i, i < r.length ∧ bg r i = true) {σ : Type} {cons : Vh σ Qc} {s0 : σ} (J : σ → Prop) (h0 : J s0)
  (hc:∀ s x,J s→RunOk r x→Yes (cons s x) fun p=>p.1=true∧J p.2):Yes (f44 r σ cons s0) J:=by
 obtain ⟨b,hb1,hb2⟩:=hb
 unfold f44
 refine Yes.jn ?_
 refine Yes.upto2 (σ:=σ) (τ:=Bool) r.length (by omega) (fun i s e=>J s∧(e=true→i ≤ b)) ⟨h0,fun _=>Nat.zero_le _⟩ (fun i s e k hi hI hk=>?_) (fun s e k hI=>?_)
 ·refine Rl (decide_eq_true (by omega)) (Yes.jn (Yes.jn (Vf _ (s70 h2 hi) (Yes.cond (fun hn => ?_) (fun hn => ?_)))))
  ·refine hk _ _ ⟨hI.1, fun he => ?_⟩
   have:=hI.2 he
   rcases Nat.lt_or_ge i b with h | h
   ·exact h
   ·have hib : i = b := by omega
    rw [hib,hb2] at hn; cases hn
  ·have hbi : bg r i = true := by simpa using hn
   refine Vf _ (nidx hi) (Yes.bind (Yes.mono (Q':=fun q:σ × Qc=>q.1=s∧RunOk r q.2) ?_ fun q hq=>?_))
   ·refine Yes.lp (fun q : σ × Qc => q.1 = s ∧ RunOk r q.2) (fun q => r.length - q.2.length.toNat) ⟨rfl, by simp only; omega, by simp only; omega⟩ (by simp only; omega) ?_
    rintro ⟨s',x⟩ k2 ⟨hs,hx1,hx2⟩ hk2
    simp only at hs hx1 hx2
    subst hs
    obtain ⟨L,hL⟩:∃ L:Nat,x.length=L:=⟨x.length.toNat,by omega⟩
    have e1:w64 ((i:Int) + x.length)=((i + L:Nat):Int):=by rw [hL,nw64 (by omega) (by omega)]; omega
    have hm:(i + L) % r.length < r.length:=Nat.mod_lt _ (by omega)
    refine Yes.jn (Vf _ (by simp only [e1]; exact nrem (by omega)) (Vf _ (s70 h2 hm) (Yes.cond (fun hn=>?_) (fun _=>Yes.some ⟨rfl,hx1,hx2⟩))))
    have hlt:L < r.length:=by
     rcases Nat.lt_or_ge L r.length with h | h
     ·exact h
     ·have hLn : L = r.length := by omega
      rw [hLn,Nat.add_mod_right,Nat.mod_eq_of_lt hi,hbi] at hn; cases hn
    have e2:w64 (x.length + 1)=x.length + 1:=nw64 (by omega) (by omega)
    refine hk2 _ ⟨rfl,by simp only [e2]; omega,by simp only [e2]; omega⟩ (by simp only [e2]; omega)
   ·obtain ⟨q1, q2⟩ := q
    simp only at hq
    obtain ⟨rfl,hq⟩:=hq
    refine Yes.bind ((hc _ q2 hI.1 hq).mono fun p hp=>?_)
    obtain ⟨p1,p2⟩:=p
    simp only at hp
    obtain ⟨rfl,hp⟩:=hp
    exact Sd rfl (hk _ _ ⟨hp,fun h=>by cases h⟩)
 ·refine Sd (decide_eq_false (by omega)) ?_
  cases e with
  | true=>have:=hI.2 rfl; omega
  | false=>exact Sd rfl (Yes.some hI.1)
theorem s44c (h1 : 1 ≤ r.length) (h2 : r.length ≤ 1000) (hb : ∀ i, i < r.length → bg r i = false) {σ : Type} {cons : Vh σ Qc} {s0 : σ} (J : σ → Prop)
  (hc:Yes (cons s0 ⟨0,1000,r[0]⟩) fun p=>J p.2):Yes (f44 r σ cons s0) J:=by
 unfold f44
 refine Yes.jn ?_
 refine Yes.upto2 (σ:=σ) (τ:=Bool) r.length (by omega) (fun i s e=>s=s0∧e=true) ⟨rfl,rfl⟩ (fun i s e k hi hI hk=>?_) (fun s e k hI=>?_)
 ·exact Rl (decide_eq_true (by omega)) (Yes.jn (Yes.jn (Vf _ (s70 h2 hi) (Rl (by rw [hb i hi]; rfl) (hk _ _ hI)))))
 ·obtain ⟨rfl, rfl⟩ := hI
  refine Sd (decide_eq_false (by omega)) (Rl rfl (Vf _ (nidx (i:=0) (by omega)) (Yes.bind (hc.mono fun p hp=>?_))))
  exact Yes.some hp
end Go.Proofs.Ytplaipkjhlkjgaa
/- TopNeedleFloat: floats along hooks. -/
set_option maxRecDepth 8000
namespace Go.Proofs.Ytplaipkjhlkjgaa
open Go.RowKit
open Classical

theorem Ly:(2:Nat) ^ 62=4611686018427387904:=by decide
theorem Jl {a:Nat} (ha:a < 2 ^ 62):(BitVec.ofInt 64 (a:Int)).toNat=a:=by
 rw [BitVec.ofInt_natCast,BitVec.toNat_ofNat]
 exact Nat.mod_eq_of_lt (by rw [Ly] at ha; omega)
theorem and64N {a b:Nat} (ha:a < 2 ^ 62) (hb:b < 2 ^ 62):Tf .and a b=((a &&& b:Nat):Int):=by
 have hx:a &&& b < 2 ^ 62:=Nat.and_lt_two_pow a hb
 unfold Tf
 simp only [BitVec.toNat_and,Jl ha,Jl hb]
 rw [Ly] at hx
 exact Km (by omega) (by omega)
theorem or64N {a b:Nat} (ha:a < 2 ^ 62) (hb:b < 2 ^ 62):Tf .or a b=((a ||| b:Nat):Int):=by
 have hx:a ||| b < 2 ^ 62:=Nat.or_lt_two_pow ha hb
 unfold Tf
 simp only [BitVec.toNat_or,Jl ha,Jl hb]
 rw [Ly] at hx
 exact Km (by omega) (by omega)
theorem shl_bitN {h:Nat} (hh:h < 62):Hj 1 (h:Int)=some ((2 ^ h:Nat):Int):=by
 have hx:2 ^ h < 2 ^ 62:=Nat.pow_lt_pow_right (by decide) hh
 rw [Ly] at hx
 unfold Hj
 rw [if_neg (by omega),show min (h:Int).toNat 64=h by simp; omega,Int.one_mul]
 rw [show ((2:Int) ^ h)=((2 ^ h:Nat):Int) by simp]
 generalize 2 ^ h=q at hx ⊢
 rw [Km (by omega) (by omega)]
theorem shr_bitN {a h:Nat} (hh:h < 62):Ys (a:Int) (h:Int)=some ((a >>> h:Nat):Int):=by
 unfold Ys
 rw [if_neg (by omega),show min (h:Int).toNat 64=h by simp; omega]
 congr 1
 rw [show ((2:Int) ^ h)=((2 ^ h:Nat):Int) by simp,Nat.shiftRight_eq_div_pow]
 generalize 2 ^ h=q
 rw [Int.fdiv_eq_ediv_of_nonneg _ (by omega)]
 exact (Int.natCast_ediv a q).symm
theorem and_oneN (a:Nat):(((a &&& 1:Nat):Int) == (1:Int))=a.testBit 0:=by
 rw [Bool.eq_iff_iff,Nat.and_one_is_mod]
 simp [Nat.testBit_zero]
 omega
def hkR (d:Design) (i:Nat):List Bool:=d.Rows.map fun row=>row.toNat.testBit i
structure DesN (d : Design) : Prop where
 h:1 ≤ d.Hooks∧d.Hooks ≤ 24
 n:1 ≤ d.Rows.length∧d.Rows.length ≤ 60
 r:∀ x ∈ d.Rows,0 ≤ x∧x < 16777216
theorem bit_is {x:Int} (h:0 ≤ x∧x < 16777216) {i:Nat} (hi:i < 62):∃ y,Ys x (i:Int)=some y∧(Tf .and y 1 == 1)=x.toNat.testBit i:=by
 obtain ⟨a,rfl⟩:∃ a:Nat,x=a:=⟨x.toNat,by omega⟩
 refine ⟨_,shr_bitN hi,?_⟩
 have hs:a >>> i < 2 ^ 62:=Nat.lt_of_le_of_lt (Nat.shiftRight_le a _) (by rw [Ly]; omega)
 rw [show (1:Int)=((1:Nat):Int) from rfl,and64N hs (by decide)]
 show (((a >>> i &&& 1:Nat):Int) == (1:Int))=_
 rw [and_oneN,Nat.testBit_shiftRight,Nat.add_zero,Int.toNat_natCast]
theorem s42 {d:Design} (g:DesN d) {i:Nat} (hi:i < 24):f42 ⟨d⟩ (i:Int)=some (hkR d i):=by
 have hn:=g.n
 refine Yes.eq ?_
 unfold f42
 refine Yes.bind (Yes.mono (Q':=fun l=>l=hkR d i) ?_ fun l hl=>Yes.some hl)
 refine Yes.upto (σ:=List Bool) d.Rows.length (by omega) (fun j s=>s=(hkR d i).take j) (by simp) (fun j s k hj hI hk=>?_) (fun s k hI=>?_)
 ·subst hI
  obtain ⟨y,hy,hb⟩:=bit_is (g.r _ (List.getElem_mem hj)) (i:=i) (by omega)
  have hjl:j < (hkR d i).length:=by simpa [hkR] using hj
  refine Rl (decide_eq_true (by simp only; omega)) (Yes.bind (Vf _ (nidx hj) (Vf _ hy (Yes.bind (Yes.apnd ?_ ?_ (Yes.some (hk _ ?_)))))))
  ·simp; omega
  ·simp; omega
  ·rw [List.take_succ_eq_append_getElem hjl]
   congr 1
   rw [hb]; simp [hkR]
 ·refine Sd (decide_eq_false (by simp only; omega)) (Yes.some ?_)
  rw [hI,List.take_of_length_le (by simp [hkR])]
def mkF (z:Int) (i:Nat) (x:Qc):Gf:=if z=2 then ⟨x.first,i,x.length,x.lifted⟩ else ⟨i,x.first,x.length,x.lifted⟩
def Ev (r:List Bool):Prop:=∀ i,i < r.length→bg r i=false
theorem s43 {z1 : FnT Try.prog Int (List Bool)} {H : Nat} (hH : H ≤ 1000) (ring : Nat → List Bool) (hφ : ∀ i, i < H → z1.φ (i : Int) = some (ring i)) (hl : ∀ i, i < H → 1 ≤ (ring i).length ∧ (ring i).length ≤ 1000) (z2 : Int)
  {σ:Type} {cons:Vh σ Gf} {s0:σ} (J J':Nat→σ→Prop) (h0:J 0 s0) (hin:∀ i s,i < H→J i s→J' i s) (hout:∀ i s,i < H→J' i s→¬ Ev (ring i)→J (i + 1) s)
  (hcc:∀ i s (h:i < H),J i s→Ev (ring i)→Yes (cons s (mkF z2 i ⟨0,1000,(ring i)[0]'(by have:=hl i h; omega)⟩)) fun p=>p.1=true∧J (i + 1) p.2)
  (hcn:∀ i s x,i < H→J' i s→RunOk (ring i) x→Yes (cons s (mkF z2 i x)) fun p=>p.1=true∧J' i p.2):Yes (f43 (H:Int) z1 z2 σ cons s0) (J H):=by
 unfold f43
 refine Yes.upto (σ:=σ) H (by omega) J h0 (fun i s k hi hI hk=>?_) (fun s k hI=>?_)
 ·obtain ⟨l1, l2⟩ := hl i hi
  have body:∀ (s:σ) (x:Qc),(Option.bind (α:=Gf) (bif (z2 == (2:Int)) then some (⟨x.first,(i:Int),x.length,x.lifted⟩:Gf) else some (⟨(i:Int),x.first,x.length,x.lifted⟩:Gf)) fun mB=>(cons s mB).bind fun (oD,yD)=>bif (!oD) then some (false,((1:Nat),yD)) else some (true,((0:Nat),yD)))=(cons s (mkF z2 i x)).bind fun (oD,yD)=>bif (!oD) then some (false,((1:Nat),yD)) else some (true,((0:Nat),yD)):=fun s x=>by
   unfold mkF
   by_cases hz:z2=2
   ·rw [if_pos hz,hz]; rfl
   ·rw [if_neg hz,show (z2 == (2:Int))=false by simpa using hz]; rfl
  refine Rl (decide_eq_true (by omega)) (Yes.jn (Vf _ (hφ i hi) (Yes.bind (Yes.mono (Q':=fun q:Nat × σ=>q.1=0∧J (i + 1) q.2) ?_ fun q hq=>?_))))
  ·simp only [body]
   by_cases hc:Ev (ring i)
   ·refine s44c l1 l2 hc (fun q : Nat × σ => q.1 = 0 ∧ J (i + 1) q.2) ?_
    simp only [Rx,Nat.beq_refl,cond_true]
    refine Yes.bind ((hcc i s hi hI hc).mono fun p hp=>?_)
    obtain ⟨p1,p2⟩:=p
    obtain ⟨rfl,hp⟩:=hp
    exact Yes.some ⟨rfl,hp⟩
   ·have hb:∃ j,j < (ring i).length∧bg (ring i) j=true:=by
     apply Classical.byContradiction
     intro hn
     exact hc fun j hj=>by
      cases hq:bg (ring i) j with
      | false=>rfl
      | true=>exact absurd ⟨j,hj,hq⟩ hn
    refine (s44n l2 hb (fun q:Nat × σ=>q.1=0∧J' i q.2) ⟨rfl,hin i s hi hI⟩ fun q x hq hx=>?_).mono fun q hq=>⟨hq.1,hout i _ hi hq.2 hc⟩
    obtain ⟨q1,q2⟩:=q
    obtain ⟨rfl,hq⟩:=hq
    simp only [Rx,Nat.beq_refl,cond_true]
    refine Yes.bind ((hcn i q2 x hi hq hx).mono fun p hp=>?_)
    obtain ⟨p1,p2⟩:=p
    obtain ⟨rfl,hp⟩:=hp
    exact Yes.some ⟨rfl,rfl,hp⟩
  ·obtain ⟨q1, q2⟩ := q
   obtain ⟨rfl,hq⟩:=hq
   exact Rl rfl (hk _ hq)
 ·exact Sd (decide_eq_false (by omega)) (Yes.some hI)
end Go.Proofs.Ytplaipkjhlkjgaa
/- TopNeedleFloat: what point.Floats names. -/
set_option maxRecDepth 8000
namespace Go.Proofs.Ytplaipkjhlkjgaa
open Go.RowKit
open Classical

theorem Vq (d:Design) (i:Nat):(hkR d i).length=d.Rows.length:=by simp [hkR]
theorem s22_999:f22 0 1000 [999]=some true:=by kernel_rfl
theorem s8 {d : Design} (g : DesN d) (hchk : f21 d = some 0) {hook : Nat} (hh : (hook : Int) < d.Hooks) {up : Bool} (hc : Ev (hkR d hook)) (hup : ∀ h : 0 < (hkR d hook).length, (hkR d hook)[0] = up) :
  Yes (f8 d 2 999) fun r=>r.2=0∧r.1.length ≤ 24∧(⟨0,hook,1000,up⟩:Gf) ∈ r.1:=by
 have hn:=g.n; have hH:=g.h
 obtain ⟨H,hHn⟩:∃ H:Nat,d.Hooks=H:=⟨d.Hooks.toNat,by omega⟩
 unfold f8
 refine Yes.jn (Vf _ hchk (Sd rfl (Yes.bind (Rl rfl (Yes.some (Sd rfl (Vf _ s22_999 (Sd rfl (Yes.bind (Yes.bind ?_))))))))))
 show Yes (f43 d.Hooks _ _ _ _ _) _
 rw [hHn]
 refine ((s43 (H := H) (by omega) (hkR d) (fun i hi => s42 g (by omega)) (fun i hi => by rw [Vq]; omega) 2
  (fun i l=>l.length ≤ i∧(hook < i→(⟨0,hook,1000,up⟩:Gf) ∈ l)) (fun i l=>l.length ≤ i∧(hook < i→(⟨0,hook,1000,up⟩:Gf) ∈ l)) ⟨Nat.le_refl _,fun h=>absurd h (Nat.not_lt_zero _)⟩ (fun _ _ _ h=>h) ?_ ?_ ?_).mono fun l hl=>Yes.some (Yes.some ⟨rfl,by have:=hl.1; simp only; omega,hl.2 (by omega)⟩))
 ·refine fun i s hi hs hnc => ⟨by omega, fun h => ?_⟩
  have hne:i ≠ hook:=fun e=>hnc (e ▸ hc)
  exact hs.2 (by omega)
 ·refine fun i s hi hs _ => ?_
  have e:(mkF 2 i ⟨0,1000,(hkR d i)[0]'(by rw [Vq]; omega)⟩)=⟨0,i,1000,(hkR d i)[0]'(by rw [Vq]; omega)⟩:=if_pos rfl
  rw [e]
  refine Rl rfl (Yes.bind (Yes.apnd (by simp; omega) (by simp; omega) (Yes.some ⟨rfl,by simp; omega,fun h=>?_⟩)))
  rcases Nat.lt_or_ge hook i with h' | h'
  ·exact List.mem_append_left _ (hs.2 h')
  ·have hih : i = hook := by omega
   subst hih
   refine List.mem_append_right _ (List.mem_singleton.2 ?_)
   rw [hup (by rw [Vq]; omega)]
 ·refine fun i s x hi hs hx => ?_
  have hx2:=hx.2
  rw [Vq] at hx2
  have e:(mkF 2 i x)=⟨x.first,i,x.length,x.lifted⟩:=if_pos rfl
  rw [e]
  exact Sd (decide_eq_false (by simp only; omega)) (Yes.some ⟨rfl,hs⟩)
end Go.Proofs.Ytplaipkjhlkjgaa
/- TopNeedleFloat: the longest floats. -/
set_option maxRecDepth 8000
namespace Go.Proofs.Ytplaipkjhlkjgaa
open Go.RowKit
open Classical

def pkR (d:Design) (i:Nat):List Bool:=(List.range d.Hooks.toNat).map fun h=>(d.Rows.getD i 0).toNat.testBit h
theorem pk_len (d:Design) (i:Nat):(pkR d i).length=d.Hooks.toNat:=by simp [pkR]
theorem s41 {d:Design} (g:DesN d) {i:Nat} (hi:i < d.Rows.length):f41 ⟨d⟩ (i:Int)=some (pkR d i):=by
 have hH:=g.h
 obtain ⟨H,hHn⟩:∃ H:Nat,d.Hooks=H:=⟨d.Hooks.toNat,by omega⟩
 refine Yes.eq ?_
 unfold f41
 refine Yes.bind (Yes.mono (Q':=fun l=>l=pkR d i) ?_ fun l hl=>Yes.some hl)
 refine Yes.upto (σ:=List Bool) H (by omega) (fun j s=>s=(pkR d i).take j) (by simp) (fun j s k hj hI hk=>?_) (fun s k hI=>?_)
 ·subst hI
  obtain ⟨y,hy,hb⟩:=bit_is (g.r _ (List.getElem_mem hi)) (i:=j) (by omega)
  have hjl:j < (pkR d i).length:=by rw [pk_len]; omega
  refine Rl (decide_eq_true (by simp only; omega)) (Yes.bind (Vf _ (nidx hi) (Vf _ hy (Yes.bind (Yes.apnd ?_ ?_ (Yes.some (hk _ ?_)))))))
  ·simp; omega
  ·simp; omega
  ·rw [List.take_succ_eq_append_getElem hjl]
   congr 1
   rw [hb]; simp [pkR,hi]
 ·refine Sd (decide_eq_false (by simp only; omega)) (Yes.some ?_)
  rw [hI,List.take_of_length_le (by rw [pk_len]; omega)]
def Le (s:Int × Int):Prop:=0 ≤ s.1∧s.1 ≤ 1000∧0 ≤ s.2∧s.2 ≤ 1000
theorem max_le {a b:Int} (h1:0 ≤ a∧a ≤ 1000) (h2:b ≤ 1000):a ≤ Bo a b∧Bo a b ≤ 1000:=by unfold Bo; split <;> omega
theorem step_le {s:Int × Int} (h:Le s) {f:Gf} (hf:f.Length ≤ 1000):Le (Ux s f)∧s.1 ≤ (Ux s f).1∧s.2 ≤ (Ux s f).2:=by
 obtain ⟨h1,h2,h3,h4⟩:=h
 have m1:=max_le ⟨h1,h2⟩ hf; have m2:=max_le ⟨h3,h4⟩ hf
 unfold Ux
 cases f.Lifted
 ·exact ⟨⟨by simp only [cond_false]; omega,by simp only [cond_false]; omega,h3,h4⟩,m1.1,Int.le_refl _⟩
 ·exact ⟨⟨h1,h2,by simp only [cond_true]; omega,by simp only [cond_true]; omega⟩,Int.le_refl _,m2.1⟩
theorem s23_2 (d:Design):f23 ⟨d⟩ 2=some (fun σ cons s=>f43 d.Hooks (⟨fun a0=>f42 ⟨d⟩ a0⟩:FnT Try.prog Int (List Bool)) 2 σ cons s):=rfl
theorem s23_1 (d:Design):f23 ⟨d⟩ 1=some (fun σ cons s=>f43 ((d.Rows.length:Nat):Int) (⟨fun a0=>f41 ⟨d⟩ a0⟩:FnT Try.prog Int (List Bool)) 1 σ cons s):=rfl
theorem lg_2 (d:Design):lgN d 2=f43 d.Hooks (⟨fun a0=>f42 ⟨d⟩ a0⟩:FnT Try.prog Int (List Bool)) 2 (Int × Int) consN (0,0):=by
 unfold lgN; rw [s23_2,Option.bind_some]
theorem lg_1 (d:Design):lgN d 1=f43 ((d.Rows.length:Nat):Int) (⟨fun a0=>f41 ⟨d⟩ a0⟩:FnT Try.prog Int (List Bool)) 1 (Int × Int) consN (0,0):=by
 unfold lgN; rw [s23_1,Option.bind_some]
theorem lg2 {d : Design} (g : DesN d) {hook : Nat} (hh : (hook : Int) < d.Hooks) {up : Bool} (hc : Ev (hkR d hook)) (hup : ∀ h : 0 < (hkR d hook).length, (hkR d hook)[0] = up) :
  Yes (lgN d 2) fun q=>(up=true→q.2=1000)∧(up=false→q.1=1000):=by
 have hn:=g.n; have hH:=g.h
 obtain ⟨H,hHn⟩:∃ H:Nat,d.Hooks=H:=⟨d.Hooks.toNat,by omega⟩
 have key:∀ (i:Nat) (s:Int × Int),Le s∧(hook < i→(up=true→s.2=1000)∧(up=false→s.1=1000))→∀ f:Gf,f.Length ≤ 1000→Le (Ux s f)∧(hook < i→(up=true→(Ux s f).2=1000)∧(up=false→(Ux s f).1=1000)):=fun i s hs f hf=>by
  obtain ⟨l,m1,m2⟩:=step_le hs.1 hf
  refine ⟨l,fun h=>⟨fun hu=>?_,fun hu=>?_⟩⟩
  ·have:=(hs.2 h).1 hu; have:=l.2.2.2; omega
  ·have:=(hs.2 h).2 hu; have:=l.2.1; omega
 rw [lg_2,hHn]
 refine ((s43 (H := H) (by omega) (hkR d) (fun i hi => s42 g (by omega)) (fun i hi => by rw [Vq]; omega) 2
  (fun i s=>Le s∧(hook < i→(up=true→s.2=1000)∧(up=false→s.1=1000))) (fun i s=>Le s∧(hook < i→(up=true→s.2=1000)∧(up=false→s.1=1000))) ⟨by simp [Le],fun h=>absurd h (Nat.not_lt_zero _)⟩ (fun _ _ _ h=>h) ?_ ?_ ?_).mono fun q hq=>hq.2 (by omega))
 ·refine fun i s hi hs hnc => ⟨hs.1, fun h => ?_⟩
  have hne:i ≠ hook:=fun e=>hnc (e ▸ hc)
  exact hs.2 (by omega)
 ·refine fun i s hi hs _ => ?_
  have e:(mkF 2 i ⟨0,1000,(hkR d i)[0]'(by rw [Vq]; omega)⟩)=⟨0,i,1000,(hkR d i)[0]'(by rw [Vq]; omega)⟩:=if_pos rfl
  rw [e]
  have k:=key i s hs ⟨0,i,1000,(hkR d i)[0]'(by rw [Vq]; omega)⟩ (Int.le_refl _)
  refine Yes.some ⟨rfl,k.1,fun h=>?_⟩
  rcases Nat.lt_or_ge hook i with h' | h'
  ·exact k.2 h'
  ·have hih : i = hook := by omega
   subst hih
   have hv:=hup (by rw [Vq]; omega)
   have l:=hs.1
   show (up=true→(Ux s _).2=1000)∧(up=false→(Ux s _).1=1000)
   rw [hv]
   obtain ⟨l1,l2,l3,l4⟩:=l
   cases up
   ·refine ⟨fun h => by simp at h, fun _ => ?_⟩
    simp only [Ux,cond_false,Bo]; split <;> omega
   ·refine ⟨fun _ => ?_, fun h => by simp at h⟩
    simp only [Ux,cond_true,Bo]; split <;> omega
 ·refine fun i s x hi hs hx => ?_
  have hx2:=hx.2
  rw [Vq] at hx2
  have e:(mkF 2 i x)=⟨x.first,i,x.length,x.lifted⟩:=if_pos rfl
  rw [e]
  exact Yes.some ⟨rfl,key i s hs _ (by simp only; omega)⟩
theorem lg1 {d:Design} (g:DesN d):Yes (lgN d 1) fun _=>True:=by
 have hn:=g.n; have hH:=g.h
 rw [lg_1]
 refine (s43 (H:=d.Rows.length) (by omega) (pkR d) (fun i hi=>s41 g hi) (fun i hi=>by rw [pk_len]; omega) 1 (fun _ _=>True) (fun _ _=>True) trivial (fun _ _ _ h=>h) (fun _ _ _ h _=>h) ?_ ?_).mono fun _ _=>trivial
 ·exact fun i s hi _ _=>Yes.some ⟨rfl,trivial⟩
 ·exact fun i s x hi _ _=>Yes.some ⟨rfl,trivial⟩
end Go.Proofs.Ytplaipkjhlkjgaa
