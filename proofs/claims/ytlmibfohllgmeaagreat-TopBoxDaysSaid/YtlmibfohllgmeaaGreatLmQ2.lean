/- Laws of plain functions, part 2. -/
import Derived.Test.YtlmibfohllgmeaaGreatLmQ1
set_option maxRecDepth 8000
namespace Go.Proofs.YtlmibfohllgmeaaGreat
open Go.RowKit
open Classical
theorem s83 {m : LoomMill} {l : List Gf} (g : Xu m l) {k : Nat} (hk : k < m.Widths.length) {f : List (Int × Gl)} (hf : Days (gm f)) :
  f92 ⟨m,l⟩ (k:Int) f=some (bl l.length (Dv m l (Jm (gm f)) k)):=by
 have hn:=g.l7
 have hp:=pow7 hn
 have hz0:Dv m l (Jm (gm f)) k 0:=⟨fun _=>0,fun i hi=>absurd hi (by simp),fun i _ hi=>absurd hi (by simp)⟩
 refine Yes.eq ?_
 unfold f92
 rw [Ss (show l.length < 62 by omega),Option.bind_some,bl_mks hn,Option.bind_some,bl_idx0,Option.bind_some]
 refine Yes.bind ?_
 refine Yes.rng (fun (s : List Bool × Tbl) i => (s.1, s.2, (i : Int))) 1 (2 ^ l.length)
  (fun z s=>s.1=bl l.length (fun x=>x < z∧Dv m l (Jm (gm f)) k x)∧∀ x,x < z→x ≠ 0→RdT m l (Jm (gm f)) k s.2 x)
  (_,_) rfl hp.2 (by omega) ⟨?_,fun x h1 h2=>absurd h1 (by omega)⟩ (fun z s kk h1 hz hI hk'=>?_) (fun s kk hI=>?_)
 ·exact Ae _ ⟨fun _=>⟨Nat.one_pos,hz0⟩,fun _=>rfl⟩ fun x _ hx=>⟨fun h=>h.elim,fun h=>absurd h.1 (by have:x ≠ 0:=hx; omega)⟩
 ·obtain ⟨out, T⟩ := s
  obtain ⟨hout,hT⟩:=hI
  simp only at hout hT
  subst hout
  have hz128:z < 128:=by omega
  have h2:decide ((z:Int) < ((2 ^ l.length:Nat):Int))=true:=decide_eq_true (Int.ofNat_lt.2 hz)
  refine Yes.jn ?_
  simp only [h2,cond_true]
  refine Yes.bind ?_
  refine Yes.rng (fun (s : List Bool × Tbl) i => (s.1, s.2, (i : Int))) 0 l.length
   (fun t s => s.1 = bl l.length (fun x => x < z ∧ Dv m l (Jm (gm f)) k x ∨ x = z ∧ ∃ j, j < t ∧ z.testBit j = true ∧ tg s.2 z j < 1048576) ∧ (∀ x, x < z → x ≠ 0 → RdT m l (Jm (gm f)) k s.2 x) ∧
    ∀ j,j < t→z.testBit j=true→Rdy m l (Jm (gm f)) k (fun i=>z.testBit i=true) j (tg s.2 z j))
   (_,T) rfl (Nat.zero_le _) (by omega) ⟨?_,hT,fun j h=>absurd h (Nat.not_lt_zero _)⟩ (fun t s kk' _ ht hI hk''=>?_) (fun s kk' hI=>?_)
  ·refine Br fun x _ => ⟨fun h => .inl h, fun h => h.elim id fun h => ?_⟩
   obtain ⟨_,j,hj,_⟩:=h
   exact absurd hj (Nat.not_lt_zero _)
  ·obtain ⟨out, T⟩ := s
   obtain ⟨hout,hT,hR⟩:=hI
   simp only at hout hT hR
   subst hout
   have h3:decide ((t:Int) < (l.length:Int))=true:=by simp; omega
   have ht7:t < 7:=by omega
   simp only [h3,cond_true]
   have hmod:∀ (v:Int) (x j:Nat),x < 128→j < 7→tg (Jj T (z:Int) (fun b=>Hp b (t:Int) v)) x j=if x=z∧j=t then v else tg T x j:=fun v x j hx hj=>tg_mod hz128 ht7 hx hj
   have hrow:∀ (T':Tbl),idx T'.toList (z:Int)=some T'[z]:=fun T'=>Pd hz128
   have hcel:∀ (T':Tbl),idx T'[z].toList (t:Int)=some (tg T' z t):=fun T'=>by
    have:=tg_idx (T:=T') hz128 ht7
    rw [hrow,Option.bind_some] at this; exact this
   have hbl7:∀ j,z.testBit j=true→j < 7:=fun j hj=>by have:=Uy hz hj; omega
   refine Yes.bind ?_
   rw [hrow,Option.bind_some,hcel,Option.bind_some]
   refine Yes.jn ?_
   rw [Il (Kc hz128),Option.bind_some,bitv (Kc hz128)]
   cases hb:z.testBit t with
   | false=>
    simp only [Bool.not_false,cond_true]
    refine Yes.some ?_
    rw [Uw (by omega)]
    have hne:∀ j,z.testBit j=true→j ≠ t:=fun j hj e=>by rw [e,hb] at hj; cases hj
    refine hk'' (_,_) ⟨Br fun x hx=>or_congr Iff.rfl (and_congr Iff.rfl ⟨?_,?_⟩),fun x hx hx0=>(hT x hx hx0).congr fun j hj=>?_,fun j hj hjb=>?_⟩
    ·rintro ⟨j, h1, h2, h3⟩
     refine ⟨j,by omega,h2,?_⟩
     simp only
     rw [hmod _ _ _ hz128 (hbl7 j h2),if_neg (fun e=>hne j h2 e.2)]; exact h3
    ·rintro ⟨j, h1, h2, h3⟩
     simp only at h3
     rw [hmod _ _ _ hz128 (hbl7 j h2),if_neg (fun e=>hne j h2 e.2)] at h3
     have:=hne j h2
     exact ⟨j,by omega,h2,h3⟩
    ·simp only
     have hj7:j < 7:=by have:=Uy (show x < 2 ^ l.length by omega) hj; omega
     rw [hmod _ _ _ (by omega) hj7,if_neg (by omega)]
    ·simp only
     have:=hne j hjb
     rw [hmod _ _ _ hz128 (hbl7 j hjb),if_neg (fun e=>this e.2)]
     exact hR j (by omega) hjb
   | true=>
    simp only [Bool.not_true,cond_false]
    have hdl:=dif_lt hz128 ht7 hb
    refine Yes.bind ((s98 g hz hb hk hf (T:=Jj T (z:Int) (fun b=>Hp b (t:Int) 1048576)) (fun hne=>(hT _ hdl hne).congr fun j hj=>?_)).mono fun d hd=>?_)
    ·have hj7 : j < 7 := by have := Uy (show dif z (2 ^ t) < 2 ^ l.length by omega) hj; omega
     rw [hmod _ _ _ (by omega) hj7,if_neg (by omega)]
    obtain ⟨hd0,hd1,hd3,hrd⟩:=hd
    have hgo:=(g.od ht).2.2.1
    have hfin : ∀ (T' : Tbl) (out' : List Bool), (∀ x j, x < 128 → j < 7 → tg T' x j = if x = z ∧ j = t then (if d < 1048576 then d + (od l t).Woven else 1048576) else tg T x j) →
      out'=bl l.length (fun x=>x < z∧Dv m l (Jm (gm f)) k x ∨ x=z∧∃ j,j < t + 1∧z.testBit j=true∧tg T' z j < 1048576)→Yes (kk' (out',T',((t + 1:Nat):Int))) fun y=>
      Yes (match y with | (n4,o4)=>kk (n4,o4,w64 ((z:Int) + 1))) fun y=>Yes (some y) fun r=>r=bl l.length (Dv m l (Jm (gm f)) k):=by
     intro T' out' hT' ho
     refine hk'' (out',T') ⟨ho,fun x hx hx0=>(hT x hx hx0).congr fun j hj=>?_,fun j hj hjb=>?_⟩
     ·have hj7 : j < 7 := by have := Uy (show x < 2 ^ l.length by omega) hj; omega
      simp only
      rw [hT' _ _ (by omega) hj7,if_neg (by omega)]
     ·simp only
      rw [hT' _ _ hz128 (hbl7 j hjb)]
      by_cases hjt:j=t
      ·subst hjt; rw [if_pos ⟨rfl,rfl⟩]; exact hrd
      ·rw [if_neg (fun e=>hjt e.2)]; exact hR j (by omega) hjb
    by_cases hdn:d < 1048576
    ·rw [decide_eq_true hdn]
     simp only [cond_true]
     rw [Fs (l:=l) (by omega) (by omega),Option.bind_some,hrow,Option.bind_some,hcel,Option.bind_some,Ed hz,Option.bind_some,Ql (by omega) (by omega)]
     refine Yes.some ?_
     rw [Uw (by omega)]
     refine hfin _ _ (fun x j hx hj=>?_) ?_
     ·rw [tg_mod hz128 ht7 hx hj, hmod _ _ _ hx hj, if_pos hdn]
      split
      ·rfl
      ·rfl
     ·refine Ae _ ⟨fun _ => ?_, fun _ => rfl⟩ fun x hx hxz => or_congr Iff.rfl ⟨fun h => absurd h.1 hxz, fun h => absurd h.1 hxz⟩
      refine .inr ⟨rfl,t,by omega,hb,?_⟩
      rw [tg_mod hz128 ht7 hz128 ht7,if_pos ⟨rfl,rfl⟩]
      have:=hd3 hdn
      omega
    ·rw [decide_eq_false hdn]
     simp only [cond_false]
     refine Yes.some ?_
     rw [Uw (by omega)]
     refine hfin _ _ (fun x j hx hj=>?_) (Br fun x hx=>or_congr Iff.rfl (and_congr Iff.rfl ⟨?_,?_⟩))
     ·rw [hmod _ _ _ hx hj,if_neg hdn]
     ·rintro ⟨j, h1, h2, h3⟩
      refine ⟨j,by omega,h2,?_⟩
      rw [hmod _ _ _ hz128 (hbl7 j h2),if_neg (by omega)]; exact h3
     ·rintro ⟨j, h1, h2, h3⟩
      rw [hmod _ _ _ hz128 (hbl7 j h2)] at h3
      by_cases hjt:j=t
      ·subst hjt; rw [if_pos ⟨rfl,rfl⟩] at h3; omega
      ·rw [if_neg (fun e=>hjt e.2)] at h3; exact ⟨j,by omega,h2,h3⟩
  ·obtain ⟨out, T'⟩ := s
   obtain ⟨hout,hT,hR⟩:=hI
   simp only at hout hT hR
   have h3:decide ((l.length:Int) < (l.length:Int))=false:=by simp
   simp only [h3,cond_false]
   refine Yes.some ?_
   simp only
   rw [Uw (by omega)]
   have hRz:RdT m l (Jm (gm f)) k T' z:=fun j hj=>hR j (Uy hz hj) hj
   refine hk' (_,_) ⟨?_,fun x hx hx0=>?_⟩
   ·simp only
    rw [hout]
    have hci:=can_iff (R:=tg T' z) g.base (fun i hi=>Uy hz hi) (bit_ne (show z ≠ 0 by omega)) hRz
    refine Br fun x hx=>⟨fun h=>?_,fun h=>?_⟩
    ·rcases h with h | ⟨rfl, j, h1, h2, h3⟩
     ·exact ⟨by omega,h.2⟩
     ·exact ⟨by omega,hci.1 ⟨j,h2,h3⟩⟩
    ·by_cases hxz : x = z
     ·subst hxz
      obtain ⟨j,h2,h3⟩:=hci.2 h.2
      exact .inr ⟨rfl,j,Uy hz h2,h2,h3⟩
     ·exact .inl ⟨by omega,h.2⟩
   ·by_cases hxz : x = z
    ·subst hxz; exact hRz
    ·exact hT x (by omega) hx0
 ·have h2 : decide (((2 ^ l.length : Nat) : Int) < ((2 ^ l.length : Nat) : Int)) = false := by simp
  refine Yes.jn ?_
  simp only [h2,cond_false]
  refine Yes.some (Yes.some ?_)
  rw [hI.1]
  exact Br fun x hx=>⟨fun h=>h.2,fun h=>⟨hx,h⟩⟩
def Kq (a:Nat):List Int:=((List.range 62).filter fun i=>a.testBit i).map fun (i:Nat)=>(i:Int)
theorem mem_nums {a:Nat} (ha:a < 2 ^ 62) {k:Nat}:(k:Int) ∈ Kq a ↔ a.testBit k=true:=by
 unfold Kq
 simp only [List.mem_map,List.mem_filter,List.mem_range]
 constructor
 ·rintro ⟨i, ⟨_, hi⟩, he⟩
  have:i=k:=by omega
  subst this; exact hi
 ·exact fun h=>⟨k,⟨Uy ha h,h⟩,rfl⟩
theorem nums_nn {a:Nat} {x:Int} (h:x ∈ Kq a):∃ k:Nat,x=k∧k < 62∧a.testBit k=true:=by
 unfold Kq at h
 simp only [List.mem_map,List.mem_filter,List.mem_range] at h
 obtain ⟨i,⟨h1,h2⟩,rfl⟩:=h
 exact ⟨i,rfl,h1,h2⟩
theorem nums_pw (a:Nat):(Kq a).Pairwise fun x y=>x < y:=by
 unfold Kq
 rw [List.pairwise_map]
 exact (List.pairwise_lt_range.filter _).imp fun h=>by omega
theorem nums_nodup (a:Nat):(Kq a).Nodup:=(nums_pw a).imp fun h=>by omega
theorem filter_cut {a n:Nat} (ha:a >>> n=0) (hn:n ≤ 62):(List.range n).filter (fun i=>a.testBit i)=(List.range 62).filter fun i=>a.testBit i:=by
 have hb:∀ i,n ≤ i→a.testBit i=false:=fun i hi=>by
  have:a < 2 ^ n:=by
   rw [Nat.shiftRight_eq_div_pow] at ha
   exact Nat.lt_of_div_eq_zero (Nat.two_pow_pos n) ha
  exact Nat.testBit_lt_two_pow (Nat.lt_of_lt_of_le this (Nat.pow_le_pow_right (by decide) hi))
 have key:∀ d,(List.range (n + d)).filter (fun i=>a.testBit i)=(List.range n).filter fun i=>a.testBit i:=by
  intro d
  induction d with
  | zero=>rfl
  | succ d ih=>
   rw [← Nat.add_assoc,List.range_succ,List.filter_append,ih]
   simp [hb (n + d) (by omega)]
 have:=key (62 - n)
 rw [show n + (62 - n)=62 by omega] at this
 exact this.symm
theorem nums_body {a : Nat} (ha : a < 2 ^ 62) {Q : List Int → Prop} (hQ : Q (Kq a)) {body : (List Int × Int → Option (List Int)) → List Int × Int → Option (List Int)}
  (hb:∀ (k:List Int × Int→Option (List Int)) (s:List Int) (i:Nat),i ≤ 62→s.length ≤ 62→body k (s,(i:Int))=bif decide (0 < a >>> i) then k (bif a.testBit i then s ++ [(i:Int)] else s,((i + 1:Nat):Int)) else some s) :
  Yes (lp body big ([],(0:Int))) Q:=by
 refine Yes.lp (fun s=>∃ i:Nat,s.2=(i:Int)∧i ≤ 62∧s.1=((List.range i).filter fun j=>a.testBit j).map fun (j:Nat)=>(j:Int)) (fun s=>62 - s.2.toNat) ⟨0,rfl,by omega,rfl⟩ (by simp) ?_
 rintro ⟨s,j⟩ k ⟨i,hi,hle,hs⟩ hk
 simp only at hi hs
 subst hi
 have hlen:s.length ≤ 62:=by
  rw [hs,List.length_map]
  have:=List.length_filter_le (fun j=>a.testBit j) (List.range i)
  rw [List.length_range] at this; omega
 rw [hb k s i hle hlen]
 by_cases h:0 < a >>> i
 ·rw [decide_eq_true h, cond_true]
  have hi2:i < 62:=by
   by_cases h62:i < 62
   ·exact h62
   ·have : i = 62 := by omega
    subst this
    rw [Nat.shiftRight_eq_div_pow,Nat.div_eq_of_lt ha] at h; omega
  refine hk _ ⟨i + 1,rfl,by omega,?_⟩ (by simp only [Int.toNat_natCast]; omega)
  rw [List.range_succ,List.filter_append,List.map_append]
  cases hb:a.testBit i <;> simp [hb,hs]
 ·rw [decide_eq_false h, cond_false]
  refine Yes.some ?_
  rw [hs,filter_cut ((Nat.eq_zero_or_pos _).resolve_right h) hle]; exact hQ
theorem dec_pos (n:Nat):decide ((n:Int) > 0)=decide (0 < n):=by rw [decide_eq_decide]; omega
theorem s59 {a:Nat} (ha:a < 2 ^ 62):f94 (a:Int)=some (Kq a):=by
 refine Yes.eq ?_
 unfold f94
 refine Yes.bind (nums_body ha (Yes.some (Q:=fun r=>r=Kq a) rfl) fun k s i hi hs=>?_)
 simp only [jn,Il ha,Option.bind_some,dec_pos,bitv1 ha,Uw (show i < 4611686018427387904 by omega)]
 cases a.testBit i with
 | false=>simp
 | true=>simp [apnd1 rfl (show s.length ≤ 1000 by omega)]
theorem pow_lt62 {n:Nat} (h:n ≤ 61):2 ^ n < 2 ^ 62∧0 < 2 ^ n:=⟨Nat.pow_lt_pow_right (by decide) (by omega),Nat.two_pow_pos n⟩
theorem Ff {a:Nat} (h0:0 < a) (ha:a < 2 ^ 62):w64 ((a:Int) - 1)=((a - 1:Nat):Int):=by rw [Pv] at ha; rw [Ql (by omega) (by omega)]; omega
theorem s52 {m:LoomMill} {l:List Gf} (g:Xu m l):f48 ⟨m,l⟩=some (Kq (2 ^ m.Widths.length - 1)):=by
 have hw:=g.w3
 have hp:=pow_lt62 (show m.Widths.length ≤ 61 by omega)
 unfold f48
 rw [Ss (show m.Widths.length < 62 by omega),Option.bind_some,Ff hp.2 hp.1,s59 (by omega)]
 rfl
theorem s53 {m:LoomMill} {l:List Gf} (g:Xu m l):f51 ⟨m,l⟩=some ((2 ^ l.length - 1:Nat):Int):=by
 have hw:=g.l7
 have hp:=pow_lt62 (show l.length ≤ 61 by omega)
 unfold f51
 rw [Ss (show l.length < 62 by omega),Option.bind_some,Ff hp.2 hp.1]
theorem Ru {p z:Nat} (h:p &&& z=p):p ≤ z:=by rw [← h]; exact Nat.and_le_right
theorem s99 {σ : Type} {z : Nat} (hz : z < 128) {cons : Dn σ Int} {s0 : σ} (J : Nat → σ → Prop) {R : σ → Prop} (h0 : J z s0)
  (hs:∀ p s,p &&& z=p→J p s→∃ s',cons s (p:Int)=some (true,s')∧(p=0→R s')∧(p ≠ 0→J ((p - 1) &&& z) s')):Yes (f137 (z:Int) σ cons s0) R:=by
 unfold f137
 refine Yes.lp (fun s=>∃ p:Nat,s.2=(p:Int)∧p &&& z=p∧J p s.1) (fun s=>s.2.toNat) ⟨z,rfl,Nat.and_self z,h0⟩ (by simp; omega) ?_
 rintro ⟨s,j⟩ k ⟨p,hp,hpz,hJ⟩ hk
 simp only at hp hJ
 subst hp
 obtain ⟨s',h1,h2,h3⟩:=hs p s hpz hJ
 refine Yes.jn ?_
 simp only [h1,Option.bind_some,Bool.not_true,cond_false]
 have hle:=Ru hpz
 by_cases hp0:p=0
 ·have : ((p : Int) == 0) = true := by simp [hp0]
  rw [this]
  exact Yes.some (h2 hp0)
 ·have : ((p : Int) == 0) = false := by simp [hp0]
  rw [this,cond_false]
  rw [Ff (by omega) (Kc (by omega)),and64 (Kc (by omega)) (Kc hz)]
  refine hk _ ⟨_,rfl,part_sub _ _,h3 hp0⟩ ?_
  simp only [Int.toNat_natCast]
  have:(p - 1) &&& z ≤ p - 1:=Nat.and_le_left
  omega
def Ud (m:LoomMill) (l:List Gf) (g:Nat→Option Gl) (Ls:List Int) (s:Nat):Prop:=
 ∃ K F,Sx m l (fun i=>s.testBit i=true) (fun i k d=>(k:Int) ∈ Ls∧Jm g i k d) K F
theorem tog_nil {m:LoomMill} {l:List Gf} {g:Nat→Option Gl} {s:Nat}:Ud m l g [] s ↔ s=0:=by
 constructor
 ·rintro ⟨K, F, h⟩
  by_cases hs:s=0
  ·exact hs
  ·obtain ⟨i, hi⟩ := bit_ne hs
   exact absurd (h.one i hi).a.1 (by simp)
 ·rintro rfl
  exact ⟨fun _=>0,fun _=>0,fun i hi=>absurd hi (by simp),fun i _ hi=>absurd hi (by simp)⟩
theorem tog_step {m : LoomMill} {l : List Gf} {g : Nat → Option Gl} {Ls : List Int} {k : Nat} (hk : (k : Int) ∉ Ls) {s : Nat} (hs : s < 128) :
  Ud m l g (Ls ++ [(k:Int)]) s ↔ ∃ q,q &&& s=q∧Dv m l (Jm g) k q∧Ud m l g Ls (dif s q):=by
 have h:=looms_step (m:=m) (l:=l) (A:=Jm g) (Q:=fun k'=>(k':Int) ∈ Ls) (k:=k) (S:=fun i=>s.testBit i=true) hk
 have e:(fun (i k':Nat) (f:Int)=>((k':Int) ∈ Ls ∨ k'=k)∧Jm g i k' f)=fun (i k':Nat) (f:Int)=>(k':Int) ∈ Ls ++ [(k:Int)]∧Jm g i k' f:=by
  funext i k' f
  apply propext
  simp only [List.mem_append,List.mem_singleton,Int.ofNat_inj]
 rw [e] at h
 unfold Ud
 rw [h]
 have hdb:∀ q,q ≤ s→∀ i,(dif s q).testBit i=true ↔ s.testBit i=true∧¬ q.testBit i=true:=fun q hq i=>by
  rw [Ol (Kc hs) (Kc (by omega))]; simp
 constructor
 ·rintro ⟨P, hP, h1, h2⟩
  obtain ⟨q,hq,hqb⟩:=set_of 7 P fun i hi=>Uy (show s < 2 ^ 7 from hs) (hP i hi)
  have hqs:q &&& s=q:=part_iff.2 fun i hi=>hP i ((hqb i).1 hi)
  have e2:P=fun i=>q.testBit i=true:=funext fun i=>propext (hqb i).symm
  subst e2
  refine ⟨q,hqs,h1,?_⟩
  have e3:(fun i=>(dif s q).testBit i=true)=fun i=>s.testBit i=true∧¬ q.testBit i=true:=funext fun i=>propext (hdb q (Ru hqs) i)
  rw [e3]; exact h2
 ·rintro ⟨q, hqs, h1, h2⟩
  refine ⟨fun i=>q.testBit i=true,part_iff.1 hqs,h1,?_⟩
  have e3:(fun i=>(dif s q).testBit i=true)=fun i=>s.testBit i=true∧¬ q.testBit i=true:=funext fun i=>propext (hdb q (Ru hqs) i)
  rw [e3] at h2; exact h2
theorem s51 {m : LoomMill} {l : List Gf} (g : Xu m l) {f : List (Int × Gl)} (hf : Days (gm f)) {Ls : List Int} (hL : Ls.Nodup) (hL2 : ∀ x ∈ Ls, 0 ≤ x ∧ x < m.Widths.length) :
  f47 ⟨m,l⟩ Ls f=some (bl l.length (Ud m l (gm f) Ls)):=by
 have hn:=g.l7
 have hp:=pow7 hn
 have hw3:=g.w3
 have hlen:Ls.length < 1000:=by
  have h1:(Ls.map Int.toNat).Nodup:=by
   rw [List.nodup_iff_pairwise_ne,List.pairwise_map]
   exact (List.nodup_iff_pairwise_ne.1 hL).imp_of_mem fun ha hb hne=>by
    have:=hL2 _ ha
    have:=hL2 _ hb
    omega
  have h2:=Av m.Widths.length (Ls.map Int.toNat) h1 (fun x hx=>by
   obtain ⟨y,hy,rfl⟩:=List.mem_map.1 hx
   have:=hL2 y hy
   omega)
  rw [List.length_map] at h2; omega
 refine Yes.eq ?_
 unfold f47
 rw [Ss (show l.length < 62 by omega),Option.bind_some,bl_mks hn,Option.bind_some,bl_idx0,Option.bind_some]
 refine Yes.bind ?_
 refine Yes.rng (fun (s:List Bool) i=>(s,(i:Int))) 0 Ls.length (fun c s=>s=bl l.length (Ud m l (gm f) (Ls.take c))) _ rfl (Nat.zero_le _) (by omega) ?_ (fun c s kk _ hc hI hk'=>?_) (fun s kk hI=>?_)
 ·refine Ae _ ⟨fun _=>tog_nil.2 rfl,fun _=>rfl⟩ fun x _ hx=>⟨fun h=>h.elim,fun h=>hx (tog_nil.1 h)⟩
 ·subst hI
  have h1:decide ((c:Int) < (Ls.length:Int))=true:=decide_eq_true (Int.ofNat_lt.2 hc)
  obtain ⟨k,hk⟩:∃ k:Nat,Ls[c]=(k:Int):=⟨(Ls[c]).toNat,by have:=hL2 _ (List.getElem_mem hc); omega⟩
  have hkw:k < m.Widths.length:=by have:=hL2 _ (List.getElem_mem hc); omega
  have htake:Ls.take (c + 1)=Ls.take c ++ [(k:Int)]:=by rw [List.take_add_one,List.getElem?_eq_getElem hc,hk]; rfl
  have hkn:(k:Int) ∉ Ls.take c:=fun hm=>by
   obtain ⟨j,hj,hje⟩:=List.getElem_of_mem hm
   rw [List.length_take] at hj
   rw [List.getElem_take,← hk] at hje
   exact List.pairwise_iff_getElem.1 hL j c (by omega) hc (by omega) hje
  simp only [h1,cond_true]
  refine Yes.bind ?_
  rw [Oa hc,Option.bind_some,hk,s83 g hkw hf,Option.bind_some,Dx,bl_mks hn,Option.bind_some,Dx]
  refine Yes.bind ?_
  refine Yes.rng (fun (s:List Bool) i=>(s,(i:Int))) 0 (2 ^ l.length) (fun z s=>s=bl l.length (fun x=>x < z∧Ud m l (gm f) (Ls.take (c + 1)) x)) _ rfl (Nat.zero_le _) (by omega) (Br fun x _=>⟨fun h=>h.elim,fun h=>absurd h.1 (Nat.not_lt_zero _)⟩) (fun z s kk' _ hz hI hk''=>?_) (fun s kk' hI=>?_)
  ·subst hI
   have h2:decide ((z:Int) < ((2 ^ l.length:Nat):Int))=true:=decide_eq_true (Int.ofNat_lt.2 hz)
   have hz128:z < 128:=by omega
   simp only [h2,cond_true]
   refine Yes.bind ?_
   unfold f93
   rw [Option.bind_some]
   refine Yes.bind ?_
   refine s99 hz128 (fun p s => s = bl l.length (fun x => (x < z ∧ Ud m l (gm f) (Ls.take (c + 1)) x) ∨ x = z ∧ ∃ q, q &&& z = q ∧ p < q ∧ Dv m l (Jm (gm f)) k q ∧ Ud m l (gm f) (Ls.take c) (dif z q)))
    (Br fun x hx=>⟨fun h=>.inl h,fun h=>h.elim id fun h=>?_⟩) (fun p s hp' hJ=>?_)
   ·obtain ⟨_, q, hq, hlt, _⟩ := h
    have:=Ru hq
    omega
   ·subst hJ
    have hpz:=Ru hp'
    have hdz:=Aq z p
    -- the new answer of the set
    have hnew : ∀ v : Bool, (v = true ↔ ∃ q, q &&& z = q ∧ p ≤ q ∧ Dv m l (Jm (gm f)) k q ∧ Ud m l (gm f) (Ls.take c) (dif z q)) →
      (p = 0 → Yes (some ((bl l.length (fun x => (x < z ∧ Ud m l (gm f) (Ls.take (c + 1)) x) ∨ x = z ∧ ∃ q, q &&& z = q ∧ p < q ∧ Dv m l (Jm (gm f)) k q ∧ Ud m l (gm f) (Ls.take c) (dif z q))).set z v))
       fun b=>Yes (kk' (b,w64 ((z:Int) + 1))) fun b=>Yes (some b) fun b=>Yes (kk (b,w64 ((c:Int) + 1))) fun b=>Yes (some b) fun r=>r=bl l.length (Ud m l (gm f) Ls)) ∧
      (p ≠ 0 → (bl l.length (fun x => (x < z ∧ Ud m l (gm f) (Ls.take (c + 1)) x) ∨ x = z ∧ ∃ q, q &&& z = q ∧ p < q ∧ Dv m l (Jm (gm f)) k q ∧ Ud m l (gm f) (Ls.take c) (dif z q))).set z v =
       bl l.length (fun x=>(x < z∧Ud m l (gm f) (Ls.take (c + 1)) x) ∨ x=z∧∃ q,q &&& z=q∧(p - 1) &&& z < q∧Dv m l (Jm (gm f)) k q∧Ud m l (gm f) (Ls.take c) (dif z q))):=by
     intro v hv
     constructor
     ·rintro rfl
      rw [Uw (by omega)]
      refine Yes.some (hk'' _ (Ae _ ?_ fun x hx hxz=>⟨fun h=>?_,fun h=>.inl ⟨by omega,h.2⟩⟩))
      ·rw [hv, htake, tog_step hkn hz128]
       exact ⟨fun ⟨q,a,_,b⟩=>⟨by omega,q,a,b⟩,fun ⟨_,q,a,b⟩=>⟨q,a,Nat.zero_le _,b⟩⟩
      ·rcases h with h | h
       ·exact ⟨by omega,h.2⟩
       ·exact absurd h.1 hxz
     ·intro hp0
      refine Ae _ ?_ fun x hx hxz=>⟨fun h=>?_,fun h=>?_⟩
      ·rw [hv]
       have hstep:∀ q,q &&& z=q→(p ≤ q ↔ (p - 1) &&& z < q):=fun q hq=>by
        have h1:(p - 1) &&& z ≤ p - 1:=Nat.and_le_left
        constructor
        ·intro h; omega
        ·intro h
         by_cases hlt:q < p
         ·have:=part_next p z q hp' hq hlt; omega
         ·omega
       exact ⟨fun ⟨q,a,b,c'⟩=>.inr ⟨rfl,q,a,(hstep q a).1 b,c'⟩,fun h=>h.elim (fun h=>absurd h.1 (by omega)) fun ⟨_,q,a,b,c'⟩=>⟨q,a,(hstep q a).2 b,c'⟩⟩
      ·exact h.elim .inl fun h=>absurd h.1 hxz
      ·exact h.elim .inl fun h=>absurd h.1 hxz
    obtain ⟨v,hv,hvi⟩:=bl_at (P:=fun x=>(x < z∧Ud m l (gm f) (Ls.take (c + 1)) x) ∨ x=z∧∃ q,q &&& z=q∧p < q∧Dv m l (Jm (gm f)) k q∧Ud m l (gm f) (Ls.take c) (dif z q)) hz
    rw [hv,Option.bind_some]
    by_cases hold:∃ q,q &&& z=q∧p < q∧Dv m l (Jm (gm f)) k q∧Ud m l (gm f) (Ls.take c) (dif z q)
    ·obtain rfl : v = true := hvi.2 (.inr ⟨rfl, hold⟩)
     rw [cond_true,Option.bind_some]
     obtain ⟨h3,h4⟩:=hnew true ⟨fun _=>let ⟨q,a,b,c'⟩:=hold; ⟨q,a,by omega,c'⟩,fun _=>rfl⟩
     exact ⟨_,rfl,h3,h4⟩
    ·obtain rfl:v=false:=by
      cases v with
      | false=>rfl
      | true=>exact absurd (hvi.1 rfl) fun h=>h.elim (fun h=>by omega) fun h=>hold h.2
     obtain ⟨u,hu,hui⟩:=bl_at (P:=Dv m l (Jm (gm f)) k) (show p < 2 ^ l.length by omega)
     rw [cond_false,hu,Option.bind_some]
     by_cases hcan:Dv m l (Jm (gm f)) k p
     ·obtain rfl : u = true := hui.2 hcan
      obtain ⟨x,hx,hxi⟩:=bl_at (P:=Ud m l (gm f) (Ls.take c)) (show dif z p < 2 ^ l.length by omega)
      rw [cond_true,andn64 (Kc hz128) (Kc (by omega)),hx,Option.bind_some,Option.bind_some]
      have hxq:x=true ↔ ∃ q,q &&& z=q∧p ≤ q∧Dv m l (Jm (gm f)) k q∧Ud m l (gm f) (Ls.take c) (dif z q):=by
       rw [hxi]
       constructor
       ·exact fun h=>⟨p,hp',Nat.le_refl _,hcan,h⟩
       ·rintro ⟨q, a, b, c'⟩
        by_cases hpq:p=q
        ·subst hpq; exact c'.2
        ·exact absurd ⟨q,a,by omega,c'⟩ hold
      obtain ⟨h3,h4⟩:=hnew x hxq
      exact ⟨_,rfl,h3,h4⟩
     ·obtain rfl:u=false:=by
       cases u with
       | false=>rfl
       | true=>exact absurd (hui.1 rfl) hcan
      have hxq:false=true ↔ ∃ q,q &&& z=q∧p ≤ q∧Dv m l (Jm (gm f)) k q∧Ud m l (gm f) (Ls.take c) (dif z q):=by
       refine ⟨fun h=>(by cases h),?_⟩
       rintro ⟨q,a,b,c'⟩
       by_cases hpq:p=q
       ·subst hpq; exact absurd c'.1 hcan
       ·exact absurd ⟨q,a,by omega,c'⟩ hold
      rw [cond_false,Option.bind_some]
      obtain ⟨h3,h4⟩:=hnew false hxq
      exact ⟨_,rfl,h3,h4⟩
  ·have h2 : decide (((2 ^ l.length : Nat) : Int) < ((2 ^ l.length : Nat) : Int)) = false := by simp
   simp only [h2,cond_false]
   refine Yes.some (Yes.some ?_)
   rw [Uw (by omega)]
   refine hk' _ ?_
   rw [hI]
   exact Br fun x hx=>⟨fun h=>h.2,fun h=>⟨hx,h⟩⟩
 ·have h1 : decide ((Ls.length : Int) < (Ls.length : Int)) = false := by simp
  simp only [h1,cond_false]
  refine Yes.some (Yes.some ?_)
  rw [hI,List.take_length]
def ng:Nat→Option Gl:=fun _=>none
theorem days_ng:Days ng:=fun _ _ h=>by cases h
def allL (m:LoomMill):List Int:=Kq (2 ^ m.Widths.length - 1)
theorem all_ok (m:LoomMill) (hw:m.Widths.length ≤ 7):∀ x ∈ allL m,0 ≤ x∧x < m.Widths.length:=fun x hx=>by
 obtain ⟨k,rfl,_,h⟩:=nums_nn hx
 rw [all_bit] at h
 have:=of_decide_eq_true h
 omega
theorem s51a {m:LoomMill} {l:List Gf} (g:Xu m l):f47 ⟨m,l⟩ (allL m) []=some (bl l.length (Ud m l ng (allL m))):=s51 g (f:=[]) days_ng (nums_nodup _) (all_ok m (by have:=g.w3; omega))
def pg (p:List Gl) (i:Nat):Option Gl:=p[i]?
def Cpl (m:LoomMill) (l:List Gf) (p:List Gl):Prop:=∃ K F,Sx m l (fun i=>i < l.length) (Jm (pg p)) K F
structure Iv (m : LoomMill) (l : List Gf) (p : List Gl) (r : Gl) : Prop where
 c:Cpl m l (p ++ [r])
 o:r.Order=(p.length:Int)
 m:∀ r':Gl,r'.Order=(p.length:Int)→Cpl m l (p ++ [r'])→r.From < r'.From ∨ r.From=r'.From∧r.Loom ≤ r'.Loom
inductive Grd (m : LoomMill) (l : List Gf) : List Gl → List Gl → Prop
 | done {p:List Gl}:p.length=l.length→Grd m l p p
 | step {p q:List Gl} {r:Gl}:p.length < l.length→Iv m l p r→Grd m l (p ++ [r]) q→Grd m l p q
theorem Iv.one {m:LoomMill} {l:List Gf} {p:List Gl} {r r':Gl} (h:Iv m l p r) (h':Iv m l p r'):r=r':=by
 have h1:=h.m r' h'.o h'.c
 have h2:=h'.m r h.o h.c
 obtain ⟨a,b,c⟩:=r
 obtain ⟨a',b',c'⟩:=r'
 have h3:=h.o
 have h4:=h'.o
 simp only at h1 h2 h3 h4
 have e1:a=a':=by omega
 have e2:b=b':=by omega
 have e3:c=c':=by omega
 rw [e1,e2,e3]
theorem Grd.one {m:LoomMill} {l:List Gf} {p q q':List Gl} (h:Grd m l p q) (h':Grd m l p q'):q=q':=by
 induction h with
 | done hl=>
  cases h' with
  | done _=>rfl
  | step h1 _ _=>omega
 | step h1 h2 _ ih=>
  cases h' with
  | done hl=>omega
  | step _ h3 h4=>
   have:=h2.one h3
   subst this
   exact ih h4
theorem od_app {l:List Gf} {x:Gf} {j:Nat} (h:j ≤ l.length):od (l ++ [x]) (j:Int)=if j=l.length then x else od l (j:Int):=by
 unfold od
 rw [Int.toNat_natCast]
 split
 ·rename_i he; subst he; simp
 ·rw [List.getElem?_append_left (by omega)]
theorem apnd40 {xs:List Gf} {y:Gf} (h:xs.length ≤ 1000):apnd 40 xs [y]=some (xs ++ [y]):=by
 unfold apnd; rw [if_pos ⟨by simp; omega,by simp; omega⟩]
def sm (n : Nat) (f : Nat → Int) : Int := match n with
 | 0=>0
 | n + 1=>sm n f + f n
theorem sm_congr {n:Nat} {f g:Nat→Int} (h:∀ i,i < n→f i=g i):sm n f=sm n g:=by
 induction n with
 | zero=>rfl
 | succ n ih=>simp only [sm]; rw [ih fun i hi=>h i (by omega),h n (by omega)]
theorem sm_zero {n:Nat} {f:Nat→Int} (h:∀ i,i < n→f i=0):sm n f=0:=by
 induction n with
 | zero=>rfl
 | succ n ih=>simp only [sm]; rw [ih fun i hi=>h i (by omega),h n (by omega)]; rfl
theorem sm_out {n:Nat} {f:Nat→Int} {t:Nat} (ht:t < n):sm n f=sm n (fun i=>if i=t then 0 else f i) + f t:=by
 induction n with
 | zero=>omega
 | succ n ih=>
  simp only [sm]
  by_cases h:t=n
  ·subst h
   rw [if_pos rfl,sm_congr (g:=f) (f:=fun i=>if i=t then 0 else f i) fun i hi=>if_neg (by omega)]
   omega
  ·rw [if_neg (fun e=>h e.symm),ih (by omega)]; omega
theorem Ln (n : Nat) (w F : Nat → Int) (lo : Int) (hw : ∀ i, i < n → 1 ≤ w i) : ∀ (d : Nat) (hi : Int) (S : Nat → Prop), (hi - lo).toNat = d → lo ≤ hi → (∀ i, i < n → S i → lo ≤ F i ∧ F i + w i ≤ hi) →
  (∀ i j,i < n→j < n→S i→S j→i ≠ j→F i ≤ F j→F i + w i ≤ F j)→sm n (fun i=>if S i then w i else 0) ≤ hi - lo:=by
 intro d
 induction d using Nat.strongRecOn with
 | ind d ih=>
  intro hi S hd hlh hS hsep
  by_cases hne:∃ i,S i∧i < n
  ·obtain ⟨t, ⟨ht, htn⟩, hm⟩ := Oi n (fun i => S i ∧ i < n) (fun i h => h.2) F hne
   have h1:=hS t htn ht
   have hwt:=hw t htn
   have h2:=ih (F t - lo).toNat (by omega) (F t) (fun i=>S i∧i ≠ t) rfl h1.1 (fun i hin hs=>⟨(hS i hin hs.1).1,hsep i t hin htn hs.1 ht hs.2 (hm i ⟨hs.1,hin⟩)⟩) fun i j hin hjn hsi hsj=>hsep i j hin hjn hsi.1 hsj.1
   rw [sm_out htn,if_pos ht]
   have h3:sm n (fun i=>if i=t then 0 else if S i then w i else 0)=sm n (fun i=>@ite _ (S i∧i ≠ t) (Classical.propDecidable _) (w i) 0):=sm_congr fun i _=>by
    by_cases he:i=t
    ·simp [he]
    ·simp [he]
   rw [h3]; omega
  ·rw [sm_zero fun i hi=>if_neg fun hs=>hne ⟨i,hs,hi⟩]; omega
end Go.Proofs.YtlmibfohllgmeaaGreat
