/- BookRepairs of chapter 13: the law. -/
import Derived.Test.YtmebkoemfjlbcaaGreatDoorBkR2
set_option maxRecDepth 100000
set_option maxHeartbeats 4000000
namespace Go.Proofs.YtmebkoemfjlbcaaGreatDoor
open Go.RowKit
def G1 (l:List UInt8) (i n:Nat):List BookCloth:=(List.range n).filterMap fun (b:Nat)=>val (l.set i (u8w (b:Int)))
def GG (l:List UInt8) (n:Nat):List BookCloth:=(List.range n).flatMap fun i=>G1 l i 256
theorem G1_succ (l:List UInt8) (i n:Nat):G1 l i (n + 1)=G1 l i n ++ (val (l.set i (u8w (n:Int)))).toList:=by
 unfold G1
 rw [List.range_succ,List.filterMap_append]
 cases h:val (l.set i (u8w (n:Int))) <;> simp [h]
theorem GG_succ (l:List UInt8) (n:Nat):GG l (n + 1)=GG l n ++ G1 l n 256:=by
 unfold GG
 rw [List.range_succ,List.flatMap_append]
 simp
theorem G1_len (l:List UInt8) (i n:Nat):(G1 l i n).length ≤ n:=by
 unfold G1
 have:=List.length_filterMap_le (fun b:Nat=>val (l.set i (u8w (b:Int)))) (List.range n)
 simpa using this
theorem GG_len (l:List UInt8) (n:Nat):(GG l n).length ≤ n * 256:=by
 induction n with
 | zero=>simp [GG]
 | succ n ih=>rw [GG_succ,List.length_append]; have:=G1_len l n 256; omega
theorem vec8 {l:List UInt8} (h:l.length=8):∃ v:Vector UInt8 8,vecN 8 l=some v∧v.toList=l:=by
 obtain ⟨a,b,c,d,e,f,g,k,rfl⟩:=eight h
 exact ⟨⟨#[a,b,c,d,e,f,g,k],rfl⟩,rfl,rfl⟩
theorem vset_toList (v:Vector UInt8 8) (i:Nat) (y:UInt8):(vset v (i:Int) y).toList=v.toList.set i y:=by
 unfold vset
 obtain ⟨xs,hx⟩:=v
 obtain ⟨l⟩:=xs
 simp
theorem s37v {l:List UInt8} (h:l.length=8) (hv:val l=none):f37 l=some (GG l 8,0):=by
 obtain ⟨v,hvec,hvl⟩:=vec8 h
 obtain ⟨c0,e0,h01,h02⟩:=s92w v
 rw [hvl,hv] at h02
 have he0:(e0 == (0:Int))=false:=by
  cases hq:(e0 == (0:Int)) with
  | false=>rfl
  | true=>rw [hq] at h02; cases h02
 refine Yes.eq ?_
 unfold f37
 refine Yes.jn (qskip (by rw [h]; rfl) ?_)
 refine qbindB v hvec (Yes.jn (qbindB _ h01 (qskip he0 ?_)))
 refine Yes.bind (Yes.upto 8 (by omega) (fun i s=>s=GG l i) rfl (fun i s k hi hI hk=>?_) (fun s k hI=>?_))
 ·subst hI
  have hG:=GG_len l i
  refine qtake (decide_eq_true (by omega)) (Yes.bind ?_)
  refine Yes.upto 256 (by omega) (fun j s=>s=GG l i ++ G1 l i j) (by simp [G1]) (fun j s k' hj hI' hk'=>?_) (fun s k' hI'=>?_)
  ·subst hI'
   have hJ:=G1_len l i j
   refine qtake (decide_eq_true (by omega)) (Yes.bind (qbindB _ (qidx (by rw [hvl]; omega)) ?_))
   obtain ⟨c,e,h1,h2⟩:=s92w (vset v (i:Int) (u8w (j:Int)))
   rw [vset_toList,hvl] at h2
   refine qbindB _ h1 (Yes.cond (fun he=>?_) (fun he=>?_))
   ·refine Yes.bind (Yes.apnd (by simp; omega) (by simp; omega) (Yes.some (hk' _ ?_)))
    rw [G1_succ,h2,show (e == (0:Int))=true from he]; simp
   ·refine Yes.some (hk' _ ?_)
    rw [G1_succ,h2,show (e == (0:Int))=false from he]; simp
  ·subst hI'
   exact qskip (decide_eq_false (by omega)) (Yes.some (hk _ (GG_succ l i).symm))
 ·subst hI
  exact qskip (decide_eq_false (by omega)) (Yes.some (Yes.some rfl))
theorem s37t {l:List UInt8} (h:l.length=8) {c:BookCloth} (hv:val l=some c):f37 l=some ([],6):=by
 obtain ⟨v,hvec,hvl⟩:=vec8 h
 obtain ⟨c0,e0,h01,h02⟩:=s92w v
 rw [hvl,hv] at h02
 have he0:(e0 == (0:Int))=true:=by
  cases hq:(e0 == (0:Int)) with
  | true=>rfl
  | false=>rw [hq] at h02; cases h02
 refine Yes.eq ?_
 unfold f37
 refine Yes.jn (qskip (by rw [h]; rfl) ?_)
 exact qbindB v hvec (Yes.jn (qbindB _ h01 (qtake he0 (Yes.some rfl))))
theorem s37n {l:List UInt8} (h:l.length ≠ 8):f37 l=some ([],4):=by
 refine Yes.eq ?_
 unfold f37
 refine Yes.jn (qtake ?_ (Yes.some rfl))
 have:((l.length:Int) == (8:Int))=false:=by simp; omega
 simp [bne,this]
theorem s40v {l:List UInt8} (h:l.length=8) (hv:val l=none):f40 l=some (GG l 8):=by
 refine Yes.eq ?_
 unfold f40
 refine Yes.bind (Yes.upto 8 (by omega) (fun i s=>s=GG l i) rfl (fun i s k hi hI hk=>?_) (fun s k hI=>?_))
 ·subst hI
  have hG:=GG_len l i
  refine Yes.jn (qtake (decide_eq_true (by omega)) (Yes.bind ?_))
  refine Yes.upto 256 (by omega) (fun j s=>s=GG l i ++ G1 l i j) (by simp [G1]) (fun j s k' hj hI' hk'=>?_) (fun s k' hI'=>?_)
  ·subst hI'
   have hJ:=G1_len l i j
   refine Yes.jn (qtake (decide_eq_true (by omega)) (Yes.bind ?_))
   refine Yes.bind (Yes.apnd (by simp; omega) (by simp; omega) ?_)
   rw [List.nil_append]
   refine qbindB _ (qidx (by omega)) ?_
   obtain ⟨c,o,h1,h2,h3⟩:=s38w (l:=l.set i (u8w (j:Int))) (by simp [h])
   rw [Int.toNat_natCast]
   refine qbindB _ h1 (qbindB (o && vB c) ?_ ?_)
   ·refine Yes.eq (Yes.cond (fun ho => qbindB _ h2 (Yes.cond (fun hb => qbindB _ (qidx (by omega)) (Yes.some ?_)) (fun hb => Yes.some ?_))) (fun ho => Yes.some ?_))
    ·have ho : o = true := ho
     have hne:(u8w (j:Int) != l[i])=true:=by
      rw [bne_iff_ne]
      intro he
      rw [ho,hb,he,List.set_getElem_self] at h3
      rw [hv] at h3
      cases h3
     rw [hne,ho,hb]; rfl
    ·rw [hb,Bool.and_false]
    ·have ho : o = false := ho
     rw [ho]; rfl
   refine Yes.cond (fun he=>?_) (fun he=>?_)
   ·refine Yes.bind (Yes.apnd (by simp; omega) (by simp; omega) (Yes.some (hk' _ ?_)))
    rw [G1_succ,h3,he]; simp
   ·refine Yes.some (hk' _ ?_)
    rw [G1_succ,h3,he]; simp
  ·subst hI'
   exact Yes.jn (qskip (decide_eq_false (by omega)) (Yes.some (hk _ (GG_succ l i).symm)))
 ·subst hI
  exact Yes.jn (qskip (decide_eq_false (by omega)) (Yes.some (Yes.some rfl)))
theorem s35r (xs:List BookCloth) (hl:xs.length < 9223372036854775807):f35 xs xs=some true:=by
 refine Yes.eq ?_
 unfold f35
 refine Yes.jn (qskip (by simp) (Yes.jn ?_))
 refine Yes.upto0 xs.length hl (fun _=>True) trivial (fun i k hi _ hk=>?_) (fun k _=>?_)
 ·refine Yes.jn (qtake (decide_eq_true (by omega)) (Yes.jn (qbindB _ (qidx hi) (qbindB _ (qidx hi) (qskip ?_ (hk trivial))))))
  simp
 ·exact Yes.jn (qskip (decide_eq_false (by omega)) (Yes.some rfl))
theorem s30v (l:List UInt8) (h:l.length ≤ 20):f30 l=some l:=by
 refine Yes.eq ?_
 unfold f30
 exact Yes.bind (Yes.apnd (by simp; omega) (by simp; omega) (Yes.some rfl))
theorem s36r (l:List UInt8):f36 l l=some true:=by
 unfold f36
 simp
theorem law7 (l:List UInt8):f7 l=some true:=by
 refine Yes.eq ?_
 unfold f7
 refine Yes.jn (Yes.cond (fun _=>qbindB _ known (Yes.some rfl)) (fun hl=>?_))
 have hl:l.length ≤ 20:=by have:=of_decide_eq_false hl; omega
 refine qbindB _ (s30v l hl) ?_
 by_cases h8:l.length=8
 ·cases hv : val l with
  | none=>
   refine qbindB _ (s37v h8 hv) (Yes.jn (qbindB _ (s36r l) (qskip rfl (Yes.jn (qskip (by rw [h8]; rfl) (Yes.jn ?_))))))
   obtain ⟨c,o,h1,h2,h3⟩:=s38w h8
   rw [hv] at h3
   have hov:(o && vB c)=false:=by
    cases hq:(o && vB c) with
    | false=>rfl
    | true=>rw [hq] at h3; cases h3
   refine qbindB _ h1 (qbindB false ?_ (qskip rfl (Yes.bind (qtake rfl (qbindB _ (s40v h8 hv) (qbindB _ (s35r (GG l 8) (by have:=GG_len l 8; omega)) (qtake rfl (qbindB _ known (Yes.some (Yes.some rfl))))))))))
   refine Yes.eq (Yes.cond (fun ho=>qbindB _ h2 (Yes.some ?_)) (fun _=>Yes.some rfl))
   have ho:o=true:=ho
   rw [ho] at hov
   exact hov
  | some c'=>
   refine qbindB _ (s37t h8 hv) (Yes.jn (qbindB _ (s36r l) (qskip rfl (Yes.jn (qskip (by rw [h8]; rfl) (Yes.jn ?_))))))
   obtain ⟨c,o,h1,h2,h3⟩:=s38w h8
   rw [hv] at h3
   have hov:(o && vB c)=true:=by
    cases hq:(o && vB c) with
    | true=>rfl
    | false=>rw [hq] at h3; cases h3
   rw [Bool.and_eq_true] at hov
   refine qbindB _ h1 (qbindB true ?_ (qtake rfl (Yes.bind (qtake rfl (qtake rfl (qbindB _ known (Yes.some (Yes.some rfl))))))))
   exact Yes.eq (qtake hov.1 (qbindB _ h2 (Yes.some hov.2)))
 ·refine qbindB _ (s37n h8) (Yes.jn (qbindB _ (s36r l) (qskip rfl (Yes.jn (qtake ?_ (Yes.bind (qtake rfl (qtake rfl (qbindB _ known (Yes.some (Yes.some rfl)))))))))))
  have:((l.length:Int) == (8:Int))=false:=by simp; omega
  simp [bne,this]
end Go.Proofs.YtmebkoemfjlbcaaGreatDoor
