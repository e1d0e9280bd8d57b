/- Laws of plain functions, part 2. -/
import Derived.Test.YtlmibfohllgmeaaGreatLmQ1
set_option maxRecDepth 8000
namespace Go.Proofs.YtlmibfohllgmeaaGreat
open Go.RowKit
open Classical
theorem s83 {m : LoomMill} {l : List LoomOrder} (g : Good m l) {k : Nat} (hk : k < m.Widths.length) {f : List (Int × LoomRun)} (hf : Days (gm f)) :
  f92 ⟨m,l⟩ (k:Int) f=some (bl l.length (CanP m l (FixG (gm f)) k)):=by
 have hn:=g.l7
 have hp:=pow7 hn
 have hz0:CanP m l (FixG (gm f)) k 0:=⟨fun _=>0,fun i hi=>absurd hi (by simp),fun i _ hi=>absurd hi (by simp)⟩
 refine Yes.eq ?_
 unfold f92
 rw [shl_bit (show l.length < 62 by omega),Option.bind_some,bl_mks hn,Option.bind_some,bl_idx0,Option.bind_some]
 refine Yes.bind ?_
 refine Yes.rng (fun (s : List Bool × Tbl) i => (s.1, s.2, (i : Int))) 1 (2 ^ l.length)
  (fun z s=>s.1=bl l.length (fun x=>x < z∧CanP m l (FixG (gm f)) k x)∧∀ x,x < z→x ≠ 0→RdT m l (FixG (gm f)) k s.2 x)
  (_,_) rfl hp.2 (by omega) ⟨?_,fun x h1 h2=>absurd h1 (by omega)⟩ (fun z s kk h1 hz hI hk'=>?_) (fun s kk hI=>?_)
 ·exact bl_set _ ⟨fun _=>⟨Nat.one_pos,hz0⟩,fun _=>rfl⟩ fun x _ hx=>⟨fun h=>h.elim,fun h=>absurd h.1 (by have:x ≠ 0:=hx; omega)⟩
 ·obtain ⟨out, T⟩ := s
  obtain ⟨hout,hT⟩:=hI
  simp only at hout hT
  subst hout
  have hz128:z < 128:=by omega
  have h2:decide ((z:Int) < ((2 ^ l.length:Nat):Int))=true:=decide_eq_true (Int.ofNat_lt.2 hz)
  refine Yes.jn ?_
  simp only [h2,cond_true]
  refine Yes.bind ?_
  refine Yes.rng (fun (s : List Bool × Tbl) i => (s.1, s.2, (i : Int))) 0 l.length
   (fun t s => s.1 = bl l.length (fun x => x < z ∧ CanP m l (FixG (gm f)) k x ∨ x = z ∧ ∃ j, j < t ∧ z.testBit j = true ∧ tg s.2 z j < 1048576) ∧ (∀ x, x < z → x ≠ 0 → RdT m l (FixG (gm f)) k s.2 x) ∧
    ∀ j,j < t→z.testBit j=true→Rdy m l (FixG (gm f)) k (fun i=>z.testBit i=true) j (tg s.2 z j))
   (_,T) rfl (Nat.zero_le _) (by omega) ⟨?_,hT,fun j h=>absurd h (Nat.not_lt_zero _)⟩ (fun t s kk' _ ht hI hk''=>?_) (fun s kk' hI=>?_)
  ·refine bl_ext fun x _ => ⟨fun h => .inl h, fun h => h.elim id fun h => ?_⟩
   obtain ⟨_,j,hj,_⟩:=h
   exact absurd hj (Nat.not_lt_zero _)
  ·obtain ⟨out, T⟩ := s
   obtain ⟨hout,hT,hR⟩:=hI
   simp only at hout hT hR
   subst hout
   have h3:decide ((t:Int) < (l.length:Int))=true:=by simp; omega
   have ht7:t < 7:=by omega
   simp only [h3,cond_true]
   have hmod:∀ (v:Int) (x j:Nat),x < 128→j < 7→tg (vmod T (z:Int) (fun b=>vset b (t:Int) v)) x j=if x=z∧j=t then v else tg T x j:=fun v x j hx hj=>tg_mod hz128 ht7 hx hj
   have hrow:∀ (T':Tbl),idx T'.toList (z:Int)=some T'[z]:=fun T'=>idx_vec hz128
   have hcel:∀ (T':Tbl),idx T'[z].toList (t:Int)=some (tg T' z t):=fun T'=>by
    have:=tg_idx (T:=T') hz128 ht7
    rw [hrow,Option.bind_some] at this; exact this
   have hbl7:∀ j,z.testBit j=true→j < 7:=fun j hj=>by have:=bit_lt hz hj; omega
   refine Yes.bind ?_
   rw [hrow,Option.bind_some,hcel,Option.bind_some]
   refine Yes.jn ?_
   rw [shr_any (lt128_62 hz128),Option.bind_some,bitv (lt128_62 hz128)]
   cases hb:z.testBit t with
   | false=>
    simp only [Bool.not_false,cond_true]
    refine Yes.some ?_
    rw [w64_succ (by omega)]
    have hne:∀ j,z.testBit j=true→j ≠ t:=fun j hj e=>by rw [e,hb] at hj; cases hj
    refine hk'' (_,_) ⟨bl_ext fun x hx=>or_congr Iff.rfl (and_congr Iff.rfl ⟨?_,?_⟩),fun x hx hx0=>(hT x hx hx0).congr fun j hj=>?_,fun j hj hjb=>?_⟩
    ·rintro ⟨j, h1, h2, h3⟩
     refine ⟨j,by omega,h2,?_⟩
     simp only
     rw [hmod _ _ _ hz128 (hbl7 j h2),if_neg (fun e=>hne j h2 e.2)]; exact h3
    ·rintro ⟨j, h1, h2, h3⟩
     simp only at h3
     rw [hmod _ _ _ hz128 (hbl7 j h2),if_neg (fun e=>hne j h2 e.2)] at h3
     have:=hne j h2
     exact ⟨j,by omega,h2,h3⟩
    ·simp only
     have hj7:j < 7:=by have:=bit_lt (show x < 2 ^ l.length by omega) hj; omega
     rw [hmod _ _ _ (by omega) hj7,if_neg (by omega)]
    ·simp only
     have:=hne j hjb
     rw [hmod _ _ _ hz128 (hbl7 j hjb),if_neg (fun e=>this e.2)]
     exact hR j (by omega) hjb
   | true=>
    simp only [Bool.not_true,cond_false]
    have hdl:=dif_lt hz128 ht7 hb
    refine Yes.bind ((s98 g hz hb hk hf (T:=vmod T (z:Int) (fun b=>vset b (t:Int) 1048576)) (fun hne=>(hT _ hdl hne).congr fun j hj=>?_)).mono fun d hd=>?_)
    ·have hj7 : j < 7 := by have := bit_lt (show dif z (2 ^ t) < 2 ^ l.length by omega) hj; omega
     rw [hmod _ _ _ (by omega) hj7,if_neg (by omega)]
    obtain ⟨hd0,hd1,hd3,hrd⟩:=hd
    have hgo:=(g.od ht).2.2.1
    have hfin : ∀ (T' : Tbl) (out' : List Bool), (∀ x j, x < 128 → j < 7 → tg T' x j = if x = z ∧ j = t then (if d < 1048576 then d + (od l t).Woven else 1048576) else tg T x j) →
      out'=bl l.length (fun x=>x < z∧CanP m l (FixG (gm f)) k x ∨ x=z∧∃ j,j < t + 1∧z.testBit j=true∧tg T' z j < 1048576)→Yes (kk' (out',T',((t + 1:Nat):Int))) fun y=>
      Yes (match y with | (n4,o4)=>kk (n4,o4,w64 ((z:Int) + 1))) fun y=>Yes (some y) fun r=>r=bl l.length (CanP m l (FixG (gm f)) k):=by
     intro T' out' hT' ho
     refine hk'' (out',T') ⟨ho,fun x hx hx0=>(hT x hx hx0).congr fun j hj=>?_,fun j hj hjb=>?_⟩
     ·have hj7 : j < 7 := by have := bit_lt (show x < 2 ^ l.length by omega) hj; omega
      simp only
      rw [hT' _ _ (by omega) hj7,if_neg (by omega)]
     ·simp only
      rw [hT' _ _ hz128 (hbl7 j hjb)]
      by_cases hjt:j=t
      ·subst hjt; rw [if_pos ⟨rfl,rfl⟩]; exact hrd
      ·rw [if_neg (fun e=>hjt e.2)]; exact hR j (by omega) hjb
    by_cases hdn:d < 1048576
    ·rw [decide_eq_true hdn]
     simp only [cond_true]
     rw [idx_od (l:=l) (by omega) (by omega),Option.bind_some,hrow,Option.bind_some,hcel,Option.bind_some,bl_idx hz,Option.bind_some,w64_id (by omega) (by omega)]
     refine Yes.some ?_
     rw [w64_succ (by omega)]
     refine hfin _ _ (fun x j hx hj=>?_) ?_
     ·rw [tg_mod hz128 ht7 hx hj, hmod _ _ _ hx hj, if_pos hdn]
      split
      ·rfl
      ·rfl
     ·refine bl_set _ ⟨fun _ => ?_, fun _ => rfl⟩ fun x hx hxz => or_congr Iff.rfl ⟨fun h => absurd h.1 hxz, fun h => absurd h.1 hxz⟩
      refine .inr ⟨rfl,t,by omega,hb,?_⟩
      rw [tg_mod hz128 ht7 hz128 ht7,if_pos ⟨rfl,rfl⟩]
      have:=hd3 hdn
      omega
    ·rw [decide_eq_false hdn]
     simp only [cond_false]
     refine Yes.some ?_
     rw [w64_succ (by omega)]
     refine hfin _ _ (fun x j hx hj=>?_) (bl_ext fun x hx=>or_congr Iff.rfl (and_congr Iff.rfl ⟨?_,?_⟩))
     ·rw [hmod _ _ _ hx hj,if_neg hdn]
     ·rintro ⟨j, h1, h2, h3⟩
      refine ⟨j,by omega,h2,?_⟩
      rw [hmod _ _ _ hz128 (hbl7 j h2),if_neg (by omega)]; exact h3
     ·rintro ⟨j, h1, h2, h3⟩
      rw [hmod _ _ _ hz128 (hbl7 j h2)] at h3
      by_cases hjt:j=t
      ·subst hjt; rw [if_pos ⟨rfl,rfl⟩] at h3; omega
      ·rw [if_neg (fun e=>hjt e.2)] at h3; exact ⟨j,by omega,h2,h3⟩
  ·obtain ⟨out, T'⟩ := s
   obtain ⟨hout,hT,hR⟩:=hI
   simp only at hout hT hR
   have h3:decide ((l.length:Int) < (l.length:Int))=false:=by simp
   simp only [h3,cond_false]
   refine Yes.some ?_
   simp only
   rw [w64_succ (by omega)]
   have hRz:RdT m l (FixG (gm f)) k T' z:=fun j hj=>hR j (bit_lt hz hj) hj
   refine hk' (_,_) ⟨?_,fun x hx hx0=>?_⟩
   ·simp only
    rw [hout]
    have hci:=can_iff (R:=tg T' z) g.base (fun i hi=>bit_lt hz hi) (bit_ne (show z ≠ 0 by omega)) hRz
    refine bl_ext fun x hx=>⟨fun h=>?_,fun h=>?_⟩
    ·rcases h with h | ⟨rfl, j, h1, h2, h3⟩
     ·exact ⟨by omega,h.2⟩
     ·exact ⟨by omega,hci.1 ⟨j,h2,h3⟩⟩
    ·by_cases hxz : x = z
     ·subst hxz
      obtain ⟨j,h2,h3⟩:=hci.2 h.2
      exact .inr ⟨rfl,j,bit_lt hz h2,h2,h3⟩
     ·exact .inl ⟨by omega,h.2⟩
   ·by_cases hxz : x = z
    ·subst hxz; exact hRz
    ·exact hT x (by omega) hx0
 ·have h2 : decide (((2 ^ l.length : Nat) : Int) < ((2 ^ l.length : Nat) : Int)) = false := by simp
  refine Yes.jn ?_
  simp only [h2,cond_false]
  refine Yes.some (Yes.some ?_)
  rw [hI.1]
  exact bl_ext fun x hx=>⟨fun h=>h.2,fun h=>⟨hx,h⟩⟩
def nums (a:Nat):List Int:=((List.range 62).filter fun i=>a.testBit i).map fun (i:Nat)=>(i:Int)
theorem mem_nums {a:Nat} (ha:a < 2 ^ 62) {k:Nat}:(k:Int) ∈ nums a ↔ a.testBit k=true:=by
 unfold nums
 simp only [List.mem_map,List.mem_filter,List.mem_range]
 constructor
 ·rintro ⟨i, ⟨_, hi⟩, he⟩
  have:i=k:=by omega
  subst this; exact hi
 ·exact fun h=>⟨k,⟨bit_lt ha h,h⟩,rfl⟩
theorem nums_nn {a:Nat} {x:Int} (h:x ∈ nums a):∃ k:Nat,x=k∧k < 62∧a.testBit k=true:=by
 unfold nums at h
 simp only [List.mem_map,List.mem_filter,List.mem_range] at h
 obtain ⟨i,⟨h1,h2⟩,rfl⟩:=h
 exact ⟨i,rfl,h1,h2⟩
theorem nums_pw (a:Nat):(nums a).Pairwise fun x y=>x < y:=by
 unfold nums
 rw [List.pairwise_map]
 exact (List.pairwise_lt_range.filter _).imp fun h=>by omega
theorem nums_nodup (a:Nat):(nums a).Nodup:=(nums_pw a).imp fun h=>by omega
theorem filter_cut {a n:Nat} (ha:a >>> n=0) (hn:n ≤ 62):(List.range n).filter (fun i=>a.testBit i)=(List.range 62).filter fun i=>a.testBit i:=by
 have hb:∀ i,n ≤ i→a.testBit i=false:=fun i hi=>by
  have:a < 2 ^ n:=by
   rw [Nat.shiftRight_eq_div_pow] at ha
   exact Nat.lt_of_div_eq_zero (Nat.two_pow_pos n) ha
  exact Nat.testBit_lt_two_pow (Nat.lt_of_lt_of_le this (Nat.pow_le_pow_right (by decide) hi))
 have key:∀ d,(List.range (n + d)).filter (fun i=>a.testBit i)=(List.range n).filter fun i=>a.testBit i:=by
  intro d
  induction d with
  | zero=>rfl
  | succ d ih=>
   rw [← Nat.add_assoc,List.range_succ,List.filter_append,ih]
   simp [hb (n + d) (by omega)]
 have:=key (62 - n)
 rw [show n + (62 - n)=62 by omega] at this
 exact this.symm
theorem nums_body {a : Nat} (ha : a < 2 ^ 62) {Q : List Int → Prop} (hQ : Q (nums a)) {body : (List Int × Int → Option (List Int)) → List Int × Int → Option (List Int)}
  (hb:∀ (k:List Int × Int→Option (List Int)) (s:List Int) (i:Nat),i ≤ 62→s.length ≤ 62→body k (s,(i:Int))=bif decide (0 < a >>> i) then k (bif a.testBit i then s ++ [(i:Int)] else s,((i + 1:Nat):Int)) else some s) :
  Yes (lp body big ([],(0:Int))) Q:=by
 refine Yes.lp (fun s=>∃ i:Nat,s.2=(i:Int)∧i ≤ 62∧s.1=((List.range i).filter fun j=>a.testBit j).map fun (j:Nat)=>(j:Int)) (fun s=>62 - s.2.toNat) ⟨0,rfl,by omega,rfl⟩ (by simp) ?_
 rintro ⟨s,j⟩ k ⟨i,hi,hle,hs⟩ hk
 simp only at hi hs
 subst hi
 have hlen:s.length ≤ 62:=by
  rw [hs,List.length_map]
  have:=List.length_filter_le (fun j=>a.testBit j) (List.range i)
  rw [List.length_range] at this; omega
 rw [hb k s i hle hlen]
 by_cases h:0 < a >>> i
 ·rw [decide_eq_true h, cond_true]
  have hi2:i < 62:=by
   by_cases h62:i < 62
   ·exact h62
   ·have : i = 62 := by omega
    subst this
    rw [Nat.shiftRight_eq_div_pow,Nat.div_eq_of_lt ha] at h; omega
  refine hk _ ⟨i + 1,rfl,by omega,?_⟩ (by simp only [Int.toNat_natCast]; omega)
  rw [List.range_succ,List.filter_append,List.map_append]
  cases hb:a.testBit i <;> simp [hb,hs]
 ·rw [decide_eq_false h, cond_false]
  refine Yes.some ?_
  rw [hs,filter_cut ((Nat.eq_zero_or_pos _).resolve_right h) hle]; exact hQ
theorem dec_pos (n:Nat):decide ((n:Int) > 0)=decide (0 < n):=by rw [decide_eq_decide]; omega
theorem s59 {a:Nat} (ha:a < 2 ^ 62):f94 (a:Int)=some (nums a):=by
 refine Yes.eq ?_
 unfold f94
 refine Yes.bind (nums_body ha (Yes.some (Q:=fun r=>r=nums a) rfl) fun k s i hi hs=>?_)
 simp only [jn,shr_any ha,Option.bind_some,dec_pos,bitv1 ha,w64_succ (show i < 4611686018427387904 by omega)]
 cases a.testBit i with
 | false=>simp
 | true=>simp [apnd1 rfl (show s.length ≤ 1000 by omega)]
theorem pow_lt62 {n:Nat} (h:n ≤ 61):2 ^ n < 2 ^ 62∧0 < 2 ^ n:=⟨Nat.pow_lt_pow_right (by decide) (by omega),Nat.two_pow_pos n⟩
theorem pred_cast {a:Nat} (h0:0 < a) (ha:a < 2 ^ 62):w64 ((a:Int) - 1)=((a - 1:Nat):Int):=by rw [pow62] at ha; rw [w64_id (by omega) (by omega)]; omega
theorem s52 {m:LoomMill} {l:List LoomOrder} (g:Good m l):f48 ⟨m,l⟩=some (nums (2 ^ m.Widths.length - 1)):=by
 have hw:=g.w3
 have hp:=pow_lt62 (show m.Widths.length ≤ 61 by omega)
 unfold f48
 rw [shl_bit (show m.Widths.length < 62 by omega),Option.bind_some,pred_cast hp.2 hp.1,s59 (by omega)]
 rfl
theorem s53 {m:LoomMill} {l:List LoomOrder} (g:Good m l):f51 ⟨m,l⟩=some ((2 ^ l.length - 1:Nat):Int):=by
 have hw:=g.l7
 have hp:=pow_lt62 (show l.length ≤ 61 by omega)
 unfold f51
 rw [shl_bit (show l.length < 62 by omega),Option.bind_some,pred_cast hp.2 hp.1]
theorem part_le {p z:Nat} (h:p &&& z=p):p ≤ z:=by rw [← h]; exact Nat.and_le_right
theorem s99 {σ : Type} {z : Nat} (hz : z < 128) {cons : Cons σ Int} {s0 : σ} (J : Nat → σ → Prop) {R : σ → Prop} (h0 : J z s0)
  (hs:∀ p s,p &&& z=p→J p s→∃ s',cons s (p:Int)=some (true,s')∧(p=0→R s')∧(p ≠ 0→J ((p - 1) &&& z) s')):Yes (f137 (z:Int) σ cons s0) R:=by
 unfold f137
 refine Yes.lp (fun s=>∃ p:Nat,s.2=(p:Int)∧p &&& z=p∧J p s.1) (fun s=>s.2.toNat) ⟨z,rfl,Nat.and_self z,h0⟩ (by simp; omega) ?_
 rintro ⟨s,j⟩ k ⟨p,hp,hpz,hJ⟩ hk
 simp only at hp hJ
 subst hp
 obtain ⟨s',h1,h2,h3⟩:=hs p s hpz hJ
 refine Yes.jn ?_
 simp only [h1,Option.bind_some,Bool.not_true,cond_false]
 have hle:=part_le hpz
 by_cases hp0:p=0
 ·have : ((p : Int) == 0) = true := by simp [hp0]
  rw [this]
  exact Yes.some (h2 hp0)
 ·have : ((p : Int) == 0) = false := by simp [hp0]
  rw [this,cond_false]
  rw [pred_cast (by omega) (lt128_62 (by omega)),and64 (lt128_62 (by omega)) (lt128_62 hz)]
  refine hk _ ⟨_,rfl,part_sub _ _,h3 hp0⟩ ?_
  simp only [Int.toNat_natCast]
  have:(p - 1) &&& z ≤ p - 1:=Nat.and_le_left
  omega
def TogP (m:LoomMill) (l:List LoomOrder) (g:Nat→Option LoomRun) (Ls:List Int) (s:Nat):Prop:=
 ∃ K F,Fits m l (fun i=>s.testBit i=true) (fun i k d=>(k:Int) ∈ Ls∧FixG g i k d) K F
theorem tog_nil {m:LoomMill} {l:List LoomOrder} {g:Nat→Option LoomRun} {s:Nat}:TogP m l g [] s ↔ s=0:=by
 constructor
 ·rintro ⟨K, F, h⟩
  by_cases hs:s=0
  ·exact hs
  ·obtain ⟨i, hi⟩ := bit_ne hs
   exact absurd (h.one i hi).a.1 (by simp)
 ·rintro rfl
  exact ⟨fun _=>0,fun _=>0,fun i hi=>absurd hi (by simp),fun i _ hi=>absurd hi (by simp)⟩
theorem tog_step {m : LoomMill} {l : List LoomOrder} {g : Nat → Option LoomRun} {Ls : List Int} {k : Nat} (hk : (k : Int) ∉ Ls) {s : Nat} (hs : s < 128) :
  TogP m l g (Ls ++ [(k:Int)]) s ↔ ∃ q,q &&& s=q∧CanP m l (FixG g) k q∧TogP m l g Ls (dif s q):=by
 have h:=looms_step (m:=m) (l:=l) (A:=FixG g) (Q:=fun k'=>(k':Int) ∈ Ls) (k:=k) (S:=fun i=>s.testBit i=true) hk
 have e:(fun (i k':Nat) (f:Int)=>((k':Int) ∈ Ls ∨ k'=k)∧FixG g i k' f)=fun (i k':Nat) (f:Int)=>(k':Int) ∈ Ls ++ [(k:Int)]∧FixG g i k' f:=by
  funext i k' f
  apply propext
  simp only [List.mem_append,List.mem_singleton,Int.ofNat_inj]
 rw [e] at h
 unfold TogP
 rw [h]
 have hdb:∀ q,q ≤ s→∀ i,(dif s q).testBit i=true ↔ s.testBit i=true∧¬ q.testBit i=true:=fun q hq i=>by
  rw [dif_bit (lt128_62 hs) (lt128_62 (by omega))]; simp
 constructor
 ·rintro ⟨P, hP, h1, h2⟩
  obtain ⟨q,hq,hqb⟩:=set_of 7 P fun i hi=>bit_lt (show s < 2 ^ 7 from hs) (hP i hi)
  have hqs:q &&& s=q:=part_iff.2 fun i hi=>hP i ((hqb i).1 hi)
  have e2:P=fun i=>q.testBit i=true:=funext fun i=>propext (hqb i).symm
  subst e2
  refine ⟨q,hqs,h1,?_⟩
  have e3:(fun i=>(dif s q).testBit i=true)=fun i=>s.testBit i=true∧¬ q.testBit i=true:=funext fun i=>propext (hdb q (part_le hqs) i)
  rw [e3]; exact h2
 ·rintro ⟨q, hqs, h1, h2⟩
  refine ⟨fun i=>q.testBit i=true,part_iff.1 hqs,h1,?_⟩
  have e3:(fun i=>(dif s q).testBit i=true)=fun i=>s.testBit i=true∧¬ q.testBit i=true:=funext fun i=>propext (hdb q (part_le hqs) i)
  rw [e3] at h2; exact h2
theorem s51 {m : LoomMill} {l : List LoomOrder} (g : Good m l) {f : List (Int × LoomRun)} (hf : Days (gm f)) {Ls : List Int} (hL : Ls.Nodup) (hL2 : ∀ x ∈ Ls, 0 ≤ x ∧ x < m.Widths.length) :
  f47 ⟨m,l⟩ Ls f=some (bl l.length (TogP m l (gm f) Ls)):=by
 have hn:=g.l7
 have hp:=pow7 hn
 have hw3:=g.w3
 have hlen:Ls.length < 1000:=by
  have h1:(Ls.map Int.toNat).Nodup:=by
   rw [List.nodup_iff_pairwise_ne,List.pairwise_map]
   exact (List.nodup_iff_pairwise_ne.1 hL).imp_of_mem fun ha hb hne=>by
    have:=hL2 _ ha
    have:=hL2 _ hb
    omega
  have h2:=nodup_lt m.Widths.length (Ls.map Int.toNat) h1 (fun x hx=>by
   obtain ⟨y,hy,rfl⟩:=List.mem_map.1 hx
   have:=hL2 y hy
   omega)
  rw [List.length_map] at h2; omega
 refine Yes.eq ?_
 unfold f47
 rw [shl_bit (show l.length < 62 by omega),Option.bind_some,bl_mks hn,Option.bind_some,bl_idx0,Option.bind_some]
 refine Yes.bind ?_
 refine Yes.rng (fun (s:List Bool) i=>(s,(i:Int))) 0 Ls.length (fun c s=>s=bl l.length (TogP m l (gm f) (Ls.take c))) _ rfl (Nat.zero_le _) (by omega) ?_ (fun c s kk _ hc hI hk'=>?_) (fun s kk hI=>?_)
 ·refine bl_set _ ⟨fun _=>tog_nil.2 rfl,fun _=>rfl⟩ fun x _ hx=>⟨fun h=>h.elim,fun h=>hx (tog_nil.1 h)⟩
 ·subst hI
  have h1:decide ((c:Int) < (Ls.length:Int))=true:=decide_eq_true (Int.ofNat_lt.2 hc)
  obtain ⟨k,hk⟩:∃ k:Nat,Ls[c]=(k:Int):=⟨(Ls[c]).toNat,by have:=hL2 _ (List.getElem_mem hc); omega⟩
  have hkw:k < m.Widths.length:=by have:=hL2 _ (List.getElem_mem hc); omega
  have htake:Ls.take (c + 1)=Ls.take c ++ [(k:Int)]:=by rw [List.take_add_one,List.getElem?_eq_getElem hc,hk]; rfl
  have hkn:(k:Int) ∉ Ls.take c:=fun hm=>by
   obtain ⟨j,hj,hje⟩:=List.getElem_of_mem hm
   rw [List.length_take] at hj
   rw [List.getElem_take,← hk] at hje
   exact List.pairwise_iff_getElem.1 hL j c (by omega) hc (by omega) hje
  simp only [h1,cond_true]
  refine Yes.bind ?_
  rw [idx_at hc,Option.bind_some,hk,s83 g hkw hf,Option.bind_some,bl_len,bl_mks hn,Option.bind_some,bl_len]
  refine Yes.bind ?_
  refine Yes.rng (fun (s:List Bool) i=>(s,(i:Int))) 0 (2 ^ l.length) (fun z s=>s=bl l.length (fun x=>x < z∧TogP m l (gm f) (Ls.take (c + 1)) x)) _ rfl (Nat.zero_le _) (by omega) (bl_ext fun x _=>⟨fun h=>h.elim,fun h=>absurd h.1 (Nat.not_lt_zero _)⟩) (fun z s kk' _ hz hI hk''=>?_) (fun s kk' hI=>?_)
  ·subst hI
   have h2:decide ((z:Int) < ((2 ^ l.length:Nat):Int))=true:=decide_eq_true (Int.ofNat_lt.2 hz)
   have hz128:z < 128:=by omega
   simp only [h2,cond_true]
   refine Yes.bind ?_
   unfold f93
   rw [Option.bind_some]
   refine Yes.bind ?_
   refine s99 hz128 (fun p s => s = bl l.length (fun x => (x < z ∧ TogP m l (gm f) (Ls.take (c + 1)) x) ∨ x = z ∧ ∃ q, q &&& z = q ∧ p < q ∧ CanP m l (FixG (gm f)) k q ∧ TogP m l (gm f) (Ls.take c) (dif z q)))
    (bl_ext fun x hx=>⟨fun h=>.inl h,fun h=>h.elim id fun h=>?_⟩) (fun p s hp' hJ=>?_)
   ·obtain ⟨_, q, hq, hlt, _⟩ := h
    have:=part_le hq
    omega
   ·subst hJ
    have hpz:=part_le hp'
    have hdz:=dif_le z p
    -- the new answer of the set
    have hnew : ∀ v : Bool, (v = true ↔ ∃ q, q &&& z = q ∧ p ≤ q ∧ CanP m l (FixG (gm f)) k q ∧ TogP m l (gm f) (Ls.take c) (dif z q)) →
      (p = 0 → Yes (some ((bl l.length (fun x => (x < z ∧ TogP m l (gm f) (Ls.take (c + 1)) x) ∨ x = z ∧ ∃ q, q &&& z = q ∧ p < q ∧ CanP m l (FixG (gm f)) k q ∧ TogP m l (gm f) (Ls.take c) (dif z q))).set z v))
       fun b=>Yes (kk' (b,w64 ((z:Int) + 1))) fun b=>Yes (some b) fun b=>Yes (kk (b,w64 ((c:Int) + 1))) fun b=>Yes (some b) fun r=>r=bl l.length (TogP m l (gm f) Ls)) ∧
      (p ≠ 0 → (bl l.length (fun x => (x < z ∧ TogP m l (gm f) (Ls.take (c + 1)) x) ∨ x = z ∧ ∃ q, q &&& z = q ∧ p < q ∧ CanP m l (FixG (gm f)) k q ∧ TogP m l (gm f) (Ls.take c) (dif z q))).set z v =
       bl l.length (fun x=>(x < z∧TogP m l (gm f) (Ls.take (c + 1)) x) ∨ x=z∧∃ q,q &&& z=q∧(p - 1) &&& z < q∧CanP m l (FixG (gm f)) k q∧TogP m l (gm f) (Ls.take c) (dif z q))):=by
     intro v hv
     constructor
     ·rintro rfl
      rw [w64_succ (by omega)]
      refine Yes.some (hk'' _ (bl_set _ ?_ fun x hx hxz=>⟨fun h=>?_,fun h=>.inl ⟨by omega,h.2⟩⟩))
      ·rw [hv, htake, tog_step hkn hz128]
       exact ⟨fun ⟨q,a,_,b⟩=>⟨by omega,q,a,b⟩,fun ⟨_,q,a,b⟩=>⟨q,a,Nat.zero_le _,b⟩⟩
      ·rcases h with h | h
       ·exact ⟨by omega,h.2⟩
       ·exact absurd h.1 hxz
     ·intro hp0
      refine bl_set _ ?_ fun x hx hxz=>⟨fun h=>?_,fun h=>?_⟩
      ·rw [hv]
       have hstep:∀ q,q &&& z=q→(p ≤ q ↔ (p - 1) &&& z < q):=fun q hq=>by
        have h1:(p - 1) &&& z ≤ p - 1:=Nat.and_le_left
        constructor
        ·intro h; omega
        ·intro h
         by_cases hlt:q < p
         ·have:=part_next p z q hp' hq hlt; omega
         ·omega
       exact ⟨fun ⟨q,a,b,c'⟩=>.inr ⟨rfl,q,a,(hstep q a).1 b,c'⟩,fun h=>h.elim (fun h=>absurd h.1 (by omega)) fun ⟨_,q,a,b,c'⟩=>⟨q,a,(hstep q a).2 b,c'⟩⟩
      ·exact h.elim .inl fun h=>absurd h.1 hxz
      ·exact h.elim .inl fun h=>absurd h.1 hxz
    obtain ⟨v,hv,hvi⟩:=bl_at (P:=fun x=>(x < z∧TogP m l (gm f) (Ls.take (c + 1)) x) ∨ x=z∧∃ q,q &&& z=q∧p < q∧CanP m l (FixG (gm f)) k q∧TogP m l (gm f) (Ls.take c) (dif z q)) hz
    rw [hv,Option.bind_some]
    by_cases hold:∃ q,q &&& z=q∧p < q∧CanP m l (FixG (gm f)) k q∧TogP m l (gm f) (Ls.take c) (dif z q)
    ·obtain rfl : v = true := hvi.2 (.inr ⟨rfl, hold⟩)
     rw [cond_true,Option.bind_some]
     obtain ⟨h3,h4⟩:=hnew true ⟨fun _=>let ⟨q,a,b,c'⟩:=hold; ⟨q,a,by omega,c'⟩,fun _=>rfl⟩
     exact ⟨_,rfl,h3,h4⟩
    ·obtain rfl:v=false:=by
      cases v with
      | false=>rfl
      | true=>exact absurd (hvi.1 rfl) fun h=>h.elim (fun h=>by omega) fun h=>hold h.2
     obtain ⟨u,hu,hui⟩:=bl_at (P:=CanP m l (FixG (gm f)) k) (show p < 2 ^ l.length by omega)
     rw [cond_false,hu,Option.bind_some]
     by_cases hcan:CanP m l (FixG (gm f)) k p
     ·obtain rfl : u = true := hui.2 hcan
      obtain ⟨x,hx,hxi⟩:=bl_at (P:=TogP m l (gm f) (Ls.take c)) (show dif z p < 2 ^ l.length by omega)
      rw [cond_true,andn64 (lt128_62 hz128) (lt128_62 (by omega)),hx,Option.bind_some,Option.bind_some]
      have hxq:x=true ↔ ∃ q,q &&& z=q∧p ≤ q∧CanP m l (FixG (gm f)) k q∧TogP m l (gm f) (Ls.take c) (dif z q):=by
       rw [hxi]
       constructor
       ·exact fun h=>⟨p,hp',Nat.le_refl _,hcan,h⟩
       ·rintro ⟨q, a, b, c'⟩
        by_cases hpq:p=q
        ·subst hpq; exact c'.2
        ·exact absurd ⟨q,a,by omega,c'⟩ hold
      obtain ⟨h3,h4⟩:=hnew x hxq
      exact ⟨_,rfl,h3,h4⟩
     ·obtain rfl:u=false:=by
       cases u with
       | false=>rfl
       | true=>exact absurd (hui.1 rfl) hcan
      have hxq:false=true ↔ ∃ q,q &&& z=q∧p ≤ q∧CanP m l (FixG (gm f)) k q∧TogP m l (gm f) (Ls.take c) (dif z q):=by
       refine ⟨fun h=>(by cases h),?_⟩
       rintro ⟨q,a,b,c'⟩
       by_cases hpq:p=q
       ·subst hpq; exact absurd c'.1 hcan
       ·exact absurd ⟨q,a,by omega,c'⟩ hold
      rw [cond_false,Option.bind_some]
      obtain ⟨h3,h4⟩:=hnew false hxq
      exact ⟨_,rfl,h3,h4⟩
  ·have h2 : decide (((2 ^ l.length : Nat) : Int) < ((2 ^ l.length : Nat) : Int)) = false := by simp
   simp only [h2,cond_false]
   refine Yes.some (Yes.some ?_)
   rw [w64_succ (by omega)]
   refine hk' _ ?_
   rw [hI]
   exact bl_ext fun x hx=>⟨fun h=>h.2,fun h=>⟨hx,h⟩⟩
 ·have h1 : decide ((Ls.length : Int) < (Ls.length : Int)) = false := by simp
  simp only [h1,cond_false]
  refine Yes.some (Yes.some ?_)
  rw [hI,List.take_length]
def ng:Nat→Option LoomRun:=fun _=>none
theorem days_ng:Days ng:=fun _ _ h=>by cases h
def allL (m:LoomMill):List Int:=nums (2 ^ m.Widths.length - 1)
theorem all_ok (m:LoomMill) (hw:m.Widths.length ≤ 7):∀ x ∈ allL m,0 ≤ x∧x < m.Widths.length:=fun x hx=>by
 obtain ⟨k,rfl,_,h⟩:=nums_nn hx
 rw [all_bit] at h
 have:=of_decide_eq_true h
 omega
theorem s51a {m:LoomMill} {l:List LoomOrder} (g:Good m l):f47 ⟨m,l⟩ (allL m) []=some (bl l.length (TogP m l ng (allL m))):=s51 g (f:=[]) days_ng (nums_nodup _) (all_ok m (by have:=g.w3; omega))
def pg (p:List LoomRun) (i:Nat):Option LoomRun:=p[i]?
def SeqP (p:List LoomRun):Prop:=∀ i,i < p.length→(rn p i).Order=(i:Int)
theorem pg_rn {p:List LoomRun} {i:Nat} (h:i < p.length):pg p i=some (rn p i):=by unfold pg rn; rw [List.getElem?_eq_getElem h]; rfl
def HoldF (m:LoomMill) (l:List LoomOrder) (p:List LoomRun):Prop:=∃ K F,Fits m l (fun i=>i < p.length) (FixG (pg p)) K F
theorem holdF_at {m:LoomMill} {l:List LoomOrder} {p:List LoomRun} {S:Nat→Prop} {K:Nat→Nat} {F:Nat→Int} (h:Fits m l S (FixG (pg p)) K F) {i:Nat} (hs:S i) (hi:i < p.length):(rn p i).Loom=(K i:Int)∧(rn p i).From=F i:=
 (h.one i hs).a _ (pg_rn hi)
def Cpl (m:LoomMill) (l:List LoomOrder) (p:List LoomRun):Prop:=∃ K F,Fits m l (fun i=>i < l.length) (FixG (pg p)) K F
theorem cpl_full {m:LoomMill} {l:List LoomOrder} {p:List LoomRun} (hl:p.length=l.length):Cpl m l p ↔ HoldF m l p:=by unfold Cpl HoldF; rw [hl]
theorem pg_app {p:List LoomRun} {r:LoomRun} {i:Nat}:pg (p ++ [r]) i=if i=p.length then some r else pg p i:=by
 unfold pg
 rcases Nat.lt_trichotomy i p.length with h | h | h
 ·rw [if_neg (by omega),List.getElem?_append_left h]
 ·rw [if_pos h,h]; simp
 ·rw [if_neg (by omega),List.getElem?_eq_none (by simp; omega),List.getElem?_eq_none (by omega)]
theorem cpl_child {m : LoomMill} {l : List LoomOrder} {p : List LoomRun} (hl : p.length < l.length) {r : LoomRun} (h : Cpl m l (p ++ [r])) :
  (∃ k:Nat,r.Loom=(k:Int)∧k < m.Widths.length)∧(od l p.length).Early ≤ r.From∧r.From + (od l p.length).Woven ≤ (od l p.length).Late:=by
 obtain ⟨K,F,h⟩:=h
 have h1:=h.one _ hl
 have h2:=h1.a r (by rw [pg_app,if_pos rfl])
 exact ⟨⟨K p.length,h2.1,h1.kw⟩,by rw [h2.2]; exact h1.e,by rw [h2.2]; exact h1.t⟩
theorem cpl_next {m:LoomMill} {l:List LoomOrder} {p:List LoomRun} (hl:p.length < l.length) (h:Cpl m l p):∃ (k:Nat) (d:Int),Cpl m l (p ++ [⟨(p.length:Int),(k:Int),d⟩]):=by
 obtain ⟨K,F,h⟩:=h
 refine ⟨K p.length,F p.length,K,F,h.mono (fun _ h=>h) fun i _ ha r hr=>?_⟩
 rw [pg_app] at hr
 by_cases hi:i=p.length
 ·subst hi
  rw [if_pos rfl] at hr
  cases hr; exact ⟨rfl,rfl⟩
 ·rw [if_neg hi] at hr; exact ha r hr
structure Least1 (m : LoomMill) (l : List LoomOrder) (p : List LoomRun) (r : LoomRun) : Prop where
 c:Cpl m l (p ++ [r])
 o:r.Order=(p.length:Int)
 m:∀ r':LoomRun,r'.Order=(p.length:Int)→Cpl m l (p ++ [r'])→r.From < r'.From ∨ r.From=r'.From∧r.Loom ≤ r'.Loom
inductive Grd (m : LoomMill) (l : List LoomOrder) : List LoomRun → List LoomRun → Prop
 | done {p:List LoomRun}:p.length=l.length→Grd m l p p
 | step {p q:List LoomRun} {r:LoomRun}:p.length < l.length→Least1 m l p r→Grd m l (p ++ [r]) q→Grd m l p q
theorem Least1.one {m:LoomMill} {l:List LoomOrder} {p:List LoomRun} {r r':LoomRun} (h:Least1 m l p r) (h':Least1 m l p r'):r=r':=by
 have h1:=h.m r' h'.o h'.c
 have h2:=h'.m r h.o h.c
 obtain ⟨a,b,c⟩:=r
 obtain ⟨a',b',c'⟩:=r'
 have h3:=h.o
 have h4:=h'.o
 simp only at h1 h2 h3 h4
 have e1:a=a':=by omega
 have e2:b=b':=by omega
 have e3:c=c':=by omega
 rw [e1,e2,e3]
theorem Grd.one {m:LoomMill} {l:List LoomOrder} {p q q':List LoomRun} (h:Grd m l p q) (h':Grd m l p q'):q=q':=by
 induction h with
 | done hl=>
  cases h' with
  | done _=>rfl
  | step h1 _ _=>omega
 | step h1 h2 _ ih=>
  cases h' with
  | done hl=>omega
  | step _ h3 h4=>
   have:=h2.one h3
   subst this
   exact ih h4
theorem SeqP.app {p:List LoomRun} (h:SeqP p) {r:LoomRun} (hr:r.Order=(p.length:Int)):SeqP (p ++ [r]):=by
 intro i hi
 rw [List.length_append,List.length_singleton] at hi
 have:rn (p ++ [r]) i=if i=p.length then r else rn p i:=by
  have h1:=pg_app (p:=p) (r:=r) (i:=i)
  unfold pg at h1
  unfold rn
  rw [h1]
  split <;> rfl
 rw [this]
 split
 ·rename_i he; rw [hr,he]
 ·exact h i (by omega)

theorem apnd24' {p ys:List LoomRun} (h:p.length ≤ 1000) (h':ys.length ≤ 1000):apnd 24 p ys=some (p ++ ys):=by
 unfold apnd; rw [if_pos ⟨by omega,by omega⟩]
theorem gm_set {f:List (Int × LoomRun)} {i j:Nat} {v:LoomRun}:gm (mset f (i:Int) v) j=if j=i then some v else gm f j:=by
 unfold gm
 rw [mget_mset]
 by_cases h:j=i
 ·subst h; simp
 ·have : ¬ (j : Int) = i := by omega
  simp [h,this]
theorem tog_all {m:LoomMill} {l:List LoomOrder} {g:Nat→Option LoomRun} (hw:m.Widths.length ≤ 7):TogP m l g (allL m) (2 ^ l.length - 1) ↔ ∃ K F,Fits m l (fun i=>i < l.length) (FixG g) K F:=by
 have hp:=pow7 hw
 have hb:∀ i,(2 ^ l.length - 1).testBit i=true ↔ i < l.length:=fun i=>by rw [all_bit]; exact decide_eq_true_iff
 constructor
 ·rintro ⟨K, F, h⟩
  exact ⟨K,F,h.mono (fun i hi=>(hb i).2 hi) fun _ _ h=>h.2⟩
 ·rintro ⟨K, F, h⟩
  refine ⟨K,F,h.mono (fun i hi=>(hb i).1 hi) fun i hi ha=>⟨?_,ha⟩⟩
  refine (mem_nums (lt128_62 (by omega))).2 ?_
  rw [all_bit]
  exact decide_eq_true (h.one i ((hb i).1 hi)).kw
theorem fits_pg {m:LoomMill} {l:List LoomOrder} {g:Nat→Option LoomRun} {p:List LoomRun} (h:∀ i,g i=pg p i):(∃ K F,Fits m l (fun i=>i < l.length) (FixG g) K F) ↔ Cpl m l p:=by
 have:g=pg p:=funext h
 rw [this]; rfl
theorem cpl_days {m:LoomMill} {l:List LoomOrder} {p:List LoomRun} (g:Good m l) (hl:p.length ≤ l.length) (h:Cpl m l p):Days (pg p):=by
 intro i r hr
 obtain ⟨K,F,h⟩:=h
 have hi:i < p.length:=by
  unfold pg at hr
  exact (List.getElem?_eq_some_iff.1 hr).1
 have h1:=h.one i (by omega)
 have h2:=(h1.a r hr).2
 have h3:=g.od h1.il
 have h4:=h1.e
 have h5:=h1.t
 omega
theorem s54 {m : LoomMill} {l : List LoomOrder} (g : Good m l) {p : List LoomRun} (hl : p.length < l.length) (hc : Cpl m l p) {f : List (Int × LoomRun)} (hf : ∀ j, gm f j = pg p j) :
    Yes (f55 ⟨m,l⟩ (p.length:Int) f) fun r=>r.1=true∧∃ x,Least1 m l p x∧∀ j,gm r.2 j=pg (p ++ [x]) j:=by
  have hl7:=g.l7
  have hw3:=g.w3
  have hpl:=pow7 hl7
  unfold f55
  rw [idx_od (l:=l) (by omega) (by omega),Option.bind_some]
  have go:=g.od hl
  generalize hx:od l (p.length:Int)=x at go
  refine Yes.jn ?_
  obtain ⟨lo,hlo⟩:∃ lo:Nat,x.Early=(lo:Int):=⟨x.Early.toNat,by omega⟩
  rw [hlo]
  obtain ⟨hi,hhi2⟩:∃ hi:Nat,lo ≤ hi∧hi ≤ 1000∧∀ t:Nat,lo ≤ t→(t < hi ↔ (t:Int) + x.Woven ≤ x.Late):=by
    by_cases hc:x.Late - x.Woven + 1 ≤ lo
    · exact ⟨lo,Nat.le_refl _,by omega,fun t ht=>by omega⟩
    · exact ⟨(x.Late - x.Woven + 1).toNat,by omega,by omega,fun t ht=>by omega⟩
  have hmem:∀ k:Nat,(k:Int) ∈ allL m ↔ k < m.Widths.length:=fun k=>by
    have hpw:=pow7 (show m.Widths.length ≤ 7 by omega)
    unfold allL
    rw [mem_nums (lt128_62 (by omega)),all_bit]; exact decide_eq_true_iff
  -- the looms,by their places
  have hlist:allL m=(List.range m.Widths.length).map fun (k:Nat)=>(k:Int):=by
    have hpw:=pow7 (show m.Widths.length ≤ 7 by omega)
    unfold allL nums
    rw [← filter_cut (n:=m.Widths.length) (by rw [Nat.shiftRight_eq_div_pow]; exact Nat.div_eq_of_lt (by omega)) (by omega)]
    congr 1
    rw [List.filter_eq_self]
    intro k hk
    rw [all_bit]; exact decide_eq_true (List.mem_range.1 hk)
  have hdp:=cpl_days g (by omega) hc
  refine Yes.rng (σ:=List (Int × LoomRun)) (fun z t=>(z,(t:Int))) lo hi (fun t z=>(∀ j,j ≠ p.length→gm z j=pg p j)∧∀ (t' k:Nat),lo ≤ t'→t' < t→¬ Cpl m l (p ++ [⟨(p.length:Int),(k:Int),(t':Int)⟩])) f rfl hhi2.1 (by omega) ⟨fun j _=>hf j,fun t' k h1 h2=>absurd h2 (by omega)⟩ (fun t z kk ht1 ht2 hI hk=>?_) (fun z kk hI=>?_)
  · have hta := (hhi2.2.2 t ht1).1 ht2
    have h2:decide (w64 ((t:Int) + x.Woven) ≤ x.Late)=true:=by
      rw [w64_id (by omega) (by omega)]; exact decide_eq_true hta
    dsimp only
    refine Yes.jn ?_
    rw [h2,cond_true]
    refine Yes.jn ?_
    rw [s52 g,Option.bind_some]
    show Yes (lp _ big (z,(0:Int))) _
    have hlen:(nums (2 ^ m.Widths.length - 1)).length=m.Widths.length:=by
      have:nums (2 ^ m.Widths.length - 1)=_:=hlist
      rw [this]; simp
    have hget:∀ k,k < m.Widths.length→idx (nums (2 ^ m.Widths.length - 1)) (k:Int)=some (k:Int):=fun k hk=>by
      have:nums (2 ^ m.Widths.length - 1)=_:=hlist
      rw [this,idx_at (by simpa using hk)]; simp
    refine Yes.rng (σ:=List (Int × LoomRun)) (fun z k=>(z,(k:Int))) 0 m.Widths.length (fun k z=>(∀ j,j ≠ p.length→gm z j=pg p j)∧∀ k':Nat,k' < k→¬ Cpl m l (p ++ [⟨(p.length:Int),(k':Int),(t:Int)⟩])) z rfl (Nat.zero_le _) (by omega) ⟨hI.1,fun _ h=>absurd h (Nat.not_lt_zero _)⟩ (fun k z' kk' _ hkw hI' hk'=>?_) (fun z' kk' hI'=>?_)
    · have h3 : decide ((k : Int) < ((nums (2 ^ m.Widths.length - 1)).length : Int)) = true := by rw [hlen]; exact decide_eq_true (Int.ofNat_lt.2 hkw)
      dsimp only
      rw [h3,cond_true]
      refine Yes.jn ?_
      rw [hget k hkw,Option.bind_some,Option.bind_some]
      have hgz:∀ j,gm (mset z' (p.length:Int) ⟨(p.length:Int),(k:Int),(t:Int)⟩) j=pg (p ++ [⟨(p.length:Int),(k:Int),(t:Int)⟩]) j:=fun j=>by
        rw [gm_set,pg_app]
        split
        · rfl
        · rename_i hj; exact hI'.1 j hj
      have hdz:Days (gm (mset z' (p.length:Int) ⟨(p.length:Int),(k:Int),(t:Int)⟩)):=fun j r hr=>by
        rw [hgz,pg_app] at hr
        split at hr
        · cases hr; simp only; omega
        · exact hdp j r hr
      have h51:=s51 g hdz (nums_nodup _) (all_ok m (by omega))
      unfold allL at h51
      rw [h51,Option.bind_some,s53 g,Option.bind_some]
      obtain ⟨v,hv,hvi⟩:=bl_at (n:=l.length) (s:=2 ^ l.length - 1) (P:=TogP m l (gm (mset z' (p.length:Int) ⟨(p.length:Int),(k:Int),(t:Int)⟩)) (nums (2 ^ m.Widths.length - 1))) (by omega)
      rw [hv,Option.bind_some]
      have hvc:v=true ↔ Cpl m l (p ++ [⟨(p.length:Int),(k:Int),(t:Int)⟩]):=hvi.trans ((tog_all (by omega)).trans (fits_pg hgz))
      cases v with
      | true=>
        have hcc:=hvc.1 rfl
        refine Yes.some ⟨rfl,_,⟨hcc,rfl,fun r' ho' hc'=>?_⟩,hgz⟩
        obtain ⟨⟨k',hk1,hk2⟩,he,hla⟩:=cpl_child hl hc'
        obtain ⟨a,b,c⟩:=r'
        simp only at ho' hk1 he ⊢
        subst ho' hk1
        rw [hx,hlo] at he
        obtain ⟨t',rfl⟩:∃ t':Nat,c=(t':Int):=⟨c.toNat,by omega⟩
        by_cases hlt:t' < t
        · exact absurd hc' (hI.2 t' k' (by omega) hlt)
        · by_cases heq : t = t'
          · subst heq
            by_cases hkk:k' < k
            · exact absurd hc' (hI'.2 k' hkk)
            · exact .inr ⟨rfl,by omega⟩
          · exact .inl (by omega)
      | false=>
        rw [cond_false]
        dsimp only
        rw [w64_succ (by omega)]
        refine hk' _ ⟨fun j hj=>?_,fun k' hk2=>?_⟩
        · rw [gm_set,if_neg hj]; exact hI'.1 j hj
        · by_cases hkk : k' = k
          · subst hkk; exact fun h=>by have:=hvc.2 h; cases this
          · exact hI'.2 k' (by omega)
    · have h3 : decide ((m.Widths.length : Int) < ((nums (2 ^ m.Widths.length - 1)).length : Int)) = false := by rw [hlen]; simp
      dsimp only
      rw [h3,cond_false]
      rw [w64_succ (by omega)]
      refine hk _ ⟨hI'.1,fun t' k h1 h2 hc'=>?_⟩
      by_cases htt:t'=t
      · subst htt
        obtain ⟨⟨k',hk1,hk2⟩,_⟩:=cpl_child hl hc'
        have hkk : k = k' := by have : (k : Int) = k' := hk1
                                omega
        subst hkk
        exact hI'.2 k hk2 hc'
      · exact hI.2 t' k h1 (by omega) hc'
  · exfalso
    obtain ⟨k,d',hc'⟩:=cpl_next hl hc
    obtain ⟨⟨k',hk1,hk2⟩,he,hla⟩:=cpl_child hl hc'
    rw [hx] at he hla
    simp only at he hla
    obtain ⟨t',rfl⟩:∃ t':Nat,d'=(t':Int):=⟨d'.toNat,by omega⟩
    exact hI.2 t' k (by omega) ((hhi2.2.2 t' (by omega)).2 hla) hc'
theorem pg_nil (j:Nat):gm [] j=pg [] j:=rfl
theorem s17 (m:LoomMill) (l:List LoomOrder):Yes (f17 m l) fun r=>(chkE m l ≠ 0→r=([],chkE m l))∧(chkE m l=0→(Cpl m l []→r.2=0∧Grd m l [] r.1)∧(¬ Cpl m l []→r=([],9))):=by
 unfold f17
 rw [s50,Option.bind_some]
 by_cases hc:chkE m l=0
 ·have g := good_of hc
  have hl7:=g.l7
  have hw3:=g.w3
  have hpl:=pow7 hl7
  have hor:openR m l=(⟨m,l⟩,0):=by simp [openR,hc]
  rw [hor]
  have h0:((0:Int) != 0)=false:=rfl
  refine Yes.jn ?_
  rw [h0,cond_false]
  refine Yes.jn ?_
  dsimp only
  rw [s52 g,Option.bind_some]
  have h51:=s51a g
  unfold allL at h51
  rw [h51,Option.bind_some,s53 g,Option.bind_some]
  obtain ⟨v,hv,hvi⟩:=bl_at (n:=l.length) (s:=2 ^ l.length - 1) (P:=TogP m l ng (nums (2 ^ m.Widths.length - 1))) (by omega)
  rw [hv,Option.bind_some]
  have hvc:v=true ↔ Cpl m l []:=hvi.trans ((tog_all (by omega)).trans (fits_pg fun _=>rfl))
  cases v with
  | false=>
   have hno:¬ Cpl m l []:=fun h=>by have:=hvc.2 h; cases this
   exact Yes.some ⟨fun h=>absurd hc h,fun _=>⟨fun h=>absurd h hno,fun _=>rfl⟩⟩
  | true=>
   have hcc:=hvc.1 rfl
   rw [Bool.not_true,cond_false]
   refine Yes.jn ?_
   refine Yes.rng (σ := List LoomRun × List (Int × LoomRun)) (fun s i => (s.1, s.2, (i : Int))) 0 l.length (fun i s => s.1.length = i ∧ SeqP s.1 ∧ Cpl m l s.1 ∧ (∀ j, gm s.2 j = pg s.1 j) ∧ ∀ q, Grd m l s.1 q → Grd m l [] q) ([], []) rfl (Nat.zero_le _) (by omega)
    ⟨rfl,fun i hi=>absurd hi (Nat.not_lt_zero _),hcc,pg_nil,fun _ h=>h⟩ (fun i s kk _ hi hI hk=>?_) (fun s kk hI=>?_)
   ·obtain ⟨p, f⟩ := s
    obtain ⟨rfl,hp,hcp,hf,hg⟩:=hI
    simp only at hi hp hcp hf hg hk
    dsimp only
    have h1:decide ((p.length:Int) < (l.length:Int))=true:=decide_eq_true (Int.ofNat_lt.2 hi)
    rw [h1,cond_true]
    refine Yes.jn ?_
    refine Yes.jn ?_
    obtain ⟨r,hr,hr1,x,hx,hrx⟩:=s54 g hi hcp hf
    rw [hr,Option.bind_some,hr1,Bool.not_true,cond_false]
    dsimp only
    have hgx:mget r.2 (p.length:Int)=some x:=by
     have:=hrx p.length
     rw [pg_app,if_pos rfl] at this
     exact this
    rw [hgx,apnd24' (by omega) (by simp),Option.bind_some,w64_succ (by omega)]
    refine hk (p ++ [x],r.2) ⟨by simp,hp.app hx.o,hx.c,hrx,fun q hq=>hg q (.step hi hx hq)⟩
   ·obtain ⟨p, f⟩ := s
    obtain ⟨h1,hp,hcp,hf,hg⟩:=hI
    simp only at h1 hg
    dsimp only
    have h2:decide ((l.length:Int) < (l.length:Int))=false:=by simp
    rw [h2,cond_false]
    exact Yes.some ⟨fun h=>absurd hc h,fun _=>⟨fun _=>⟨rfl,hg p (.done h1)⟩,fun h=>absurd hcc h⟩⟩
 ·have hor : openR m l = (⟨⟨[], 0⟩, []⟩, chkE m l) := by simp [openR, hc]
  have h0:(chkE m l != 0)=true:=by simp [hc]
  rw [hor]
  refine Yes.jn ?_
  rw [h0,cond_true]
  exact Yes.some ⟨fun _=>rfl,fun h=>absurd h hc⟩
theorem grd_len {m:LoomMill} {l:List LoomOrder} {p q:List LoomRun} (h:Grd m l p q):q.length=l.length:=by
 induction h with
 | done h=>exact h
 | step _ _ _ ih=>exact ih
theorem od_app {l:List LoomOrder} {x:LoomOrder} {j:Nat} (h:j ≤ l.length):od (l ++ [x]) (j:Int)=if j=l.length then x else od l (j:Int):=by
 unfold od
 rw [Int.toNat_natCast]
 split
 ·rename_i he; subst he; simp
 ·rw [List.getElem?_append_left (by omega)]
theorem apnd40 {xs:List LoomOrder} {y:LoomOrder} (h:xs.length ≤ 1000):apnd 40 xs [y]=some (xs ++ [y]):=by
 unfold apnd; rw [if_pos ⟨by simp; omega,by simp; omega⟩]
theorem grd_seq {m:LoomMill} {l:List LoomOrder} {p q:List LoomRun} (h:Grd m l p q):SeqP p→SeqP q:=by
 induction h with
 | done _=>exact fun h=>h
 | step _ hr _ ih=>exact fun h=>ih (h.app hr.o)
theorem grd_cpl {m:LoomMill} {l:List LoomOrder} {p q:List LoomRun} (h:Grd m l p q):Cpl m l p→Cpl m l q:=by
 induction h with
 | done _=>exact fun h=>h
 | step _ hr _ ih=>exact fun _=>ih hr.c
theorem seq_nil:SeqP []:=fun i hi=>absurd hi (Nat.not_lt_zero _)
def sm (n : Nat) (f : Nat → Int) : Int := match n with
 | 0=>0
 | n + 1=>sm n f + f n
theorem sm_congr {n:Nat} {f g:Nat→Int} (h:∀ i,i < n→f i=g i):sm n f=sm n g:=by
 induction n with
 | zero=>rfl
 | succ n ih=>simp only [sm]; rw [ih fun i hi=>h i (by omega),h n (by omega)]
theorem sm_zero {n:Nat} {f:Nat→Int} (h:∀ i,i < n→f i=0):sm n f=0:=by
 induction n with
 | zero=>rfl
 | succ n ih=>simp only [sm]; rw [ih fun i hi=>h i (by omega),h n (by omega)]; rfl
theorem sm_out {n:Nat} {f:Nat→Int} {t:Nat} (ht:t < n):sm n f=sm n (fun i=>if i=t then 0 else f i) + f t:=by
 induction n with
 | zero=>omega
 | succ n ih=>
  simp only [sm]
  by_cases h:t=n
  ·subst h
   rw [if_pos rfl,sm_congr (g:=f) (f:=fun i=>if i=t then 0 else f i) fun i hi=>if_neg (by omega)]
   omega
  ·rw [if_neg (fun e=>h e.symm),ih (by omega)]; omega
theorem pack (n : Nat) (w F : Nat → Int) (lo : Int) (hw : ∀ i, i < n → 1 ≤ w i) : ∀ (d : Nat) (hi : Int) (S : Nat → Prop), (hi - lo).toNat = d → lo ≤ hi → (∀ i, i < n → S i → lo ≤ F i ∧ F i + w i ≤ hi) →
  (∀ i j,i < n→j < n→S i→S j→i ≠ j→F i ≤ F j→F i + w i ≤ F j)→sm n (fun i=>if S i then w i else 0) ≤ hi - lo:=by
 intro d
 induction d using Nat.strongRecOn with
 | ind d ih=>
  intro hi S hd hlh hS hsep
  by_cases hne:∃ i,S i∧i < n
  ·obtain ⟨t, ⟨ht, htn⟩, hm⟩ := exl_max n (fun i => S i ∧ i < n) (fun i h => h.2) F hne
   have h1:=hS t htn ht
   have hwt:=hw t htn
   have h2:=ih (F t - lo).toNat (by omega) (F t) (fun i=>S i∧i ≠ t) rfl h1.1 (fun i hin hs=>⟨(hS i hin hs.1).1,hsep i t hin htn hs.1 ht hs.2 (hm i ⟨hs.1,hin⟩)⟩) fun i j hin hjn hsi hsj=>hsep i j hin hjn hsi.1 hsj.1
   rw [sm_out htn,if_pos ht]
   have h3:sm n (fun i=>if i=t then 0 else if S i then w i else 0)=sm n (fun i=>@ite _ (S i∧i ≠ t) (Classical.propDecidable _) (w i) 0):=sm_congr fun i _=>by
    by_cases he:i=t
    ·simp [he]
    ·simp [he]
   rw [h3]; omega
  ·rw [sm_zero fun i hi=>if_neg fun hs=>hne ⟨i,hs,hi⟩]; omega
theorem holdF_run {m : LoomMill} {l : List LoomOrder} {p : List LoomRun} (g : Good m l) (hs : SeqP p) (hn : p.length ≤ l.length) {K : Nat → Nat} {F : Nat → Int} (h : Fits m l (fun i => i < p.length) (FixG (pg p)) K F) {i : Nat} (hi : i < p.length) :
  (rn p i).Order=(i:Int)∧(rn p i).Loom=(K i:Int)∧(rn p i).From=F i∧K i < m.Widths.length∧0 ≤ F i∧F i + (od l i).Woven ≤ 300:=by
 obtain ⟨h1,h2⟩:=holdF_at h hi hi
 have h3:=h.one i hi
 have h4:=g.od h3.il
 have h5:=h3.e
 have h6:=h3.t
 exact ⟨hs i hi,h1,h2,h3.kw,by omega,by omega⟩
end Go.Proofs.YtlmibfohllgmeaaGreat
