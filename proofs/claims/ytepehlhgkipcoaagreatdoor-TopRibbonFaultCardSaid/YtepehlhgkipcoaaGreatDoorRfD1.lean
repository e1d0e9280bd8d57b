/- TopRibbonFault: the law. -/
import Derived.Test.YtepehlhgkipcoaaGreatDoorRfC1
set_option maxRecDepth 8000
namespace Go.Proofs.YtepehlhgkipcoaaGreatDoor
open Go.RowKit
open Classical
theorem Nu {α:Type} {xs:List α} {n i:Nat} {y:α} (hl:xs.length=n) (hi:i < 2 * n) (h:xs[i % n]?=some y):(xs ++ xs)[i]?=some y:=by
 by_cases hn:i < n
 ·rw [List.getElem?_append_left (by omega),← h,Nat.mod_eq_of_lt hn]
 ·rw [List.getElem?_append_right (by omega), hl, ← h]
  congr 1
  rw [Nat.mod_eq_sub_mod (by omega),Nat.mod_eq_of_lt (by omega)]
theorem Om {α:Type} {xs:List α} {i:Nat} {y:α} (h:xs[i]?=some y):idx xs (i:Int)=some y:=by unfold idx; rw [if_pos (Int.natCast_nonneg i),Int.toNat_natCast]; exact h
theorem M9 {α:Type} {xs:List α} {k:Nat} {y:α} {r:List α} (h:xs.drop k=y :: r):k < xs.length∧xs[k]?=some y∧xs.drop (k + 1)=r:=by
 have hk:k < xs.length:=by
  rcases Nat.lt_or_ge k xs.length with h1 | h1
  ·exact h1
  ·rw [List.drop_eq_nil_of_le h1] at h; cases h
 rw [List.drop_eq_getElem_cons hk] at h
 injection h with h1 h2
 exact ⟨hk,by rw [List.getElem?_eq_getElem hk,h1],h2⟩
theorem faults:Yes ((f12).bind fun b=>bif b then (f13).bind fun c=>some c else some false) fun r=>r=true:=
 Gv _ M1 (K3 rfl (Gv _ pb15 (Yes.some rfl)))
def y2 (n:Int):List Z5:=[⟨0,0,0,0,n⟩,⟨3,0,0,0,n⟩]
theorem I2 {n:Int} (h:1 ≤ n∧n ≤ 12):LgK (y2 n):=by
 refine ⟨by simp [y2],?_,fun c hc=>?_⟩
 ·refine List.Pairwise.cons (fun c hc => ?_) (List.Pairwise.cons (fun c hc => by cases hc) List.Pairwise.nil)
  rw [List.mem_singleton.1 hc]; simp [U5]
 ·simp [y2] at hc
  rcases hc with rfl | rfl <;> refine ⟨⟨?_,?_⟩,⟨?_,?_⟩,rfl,rfl,?_,?_⟩ <;> dsimp only <;> omega
theorem y2_log {n:Int} (h:1 ≤ n∧n ≤ 12):f7 (y2 n)=some (((y2 n).map Dp).flatten,0,0):=s17k (I2 h)
theorem Aq {n:Int} (h:1 ≤ n∧n ≤ 12):f20 [((y2 n).map Dp).flatten]=some (y2 n,0,0):=
 s19k (ls:=[y2 n]) (by simp) (fun l hl=>by rw [List.mem_singleton.1 hl]; exact I2 h) (I2 h) (fun l hl c hc=>by rw [List.mem_singleton.1 hl] at hc; exact hc) (fun c hc=>⟨_,by simp,hc⟩)
theorem Ej {a b:Bool}:(Yj a == Yj b)=!(a != b):=by cases a <;> cases b <;> rfl
set_option maxHeartbeats 1000000 in
theorem s3f {A B C:Prop} (x0:UInt8) (rows:List UInt16) (v:Vector UInt8 3) (_:A) (hr:rows.length ≤ 9223372036854775807∧B) (_:C):f3 x0 rows v=some true:=by
 refine Yes.eq ?_
 unfold f3
 have hH:1 ≤ hx x0∧hx x0 ≤ 8:=by have:=P8 x0; omega
 generalize hHH:hx x0=H at hH
 obtain ⟨pj,hpj,hpj2⟩:=pj_is v[0]
 refine Yes.bind ((s4m x0 rows hr.1).mono fun l hl=>Gv _ (vidx v (i:=0) (by omega)) (Gv pj hpj (Gv _ (vidx v (i:=1) (by omega)) (Gv _ (vidx v (i:=2) (by omega)) ?_))))
 rw [hHH] at hl
 have g:=good6 hH hl
 have hd6:=hl.1
 have hn12:=hd6.2.1
 refine Yes.bind ((s5d hH hl hpj2).mono fun d hd=>Gv _ (s9m hl) (Yes.bind (Yes.mono (Q':=fun m=>∃ (q:Nat) (c:Z8),m=V8 l (cdx l.Design.Rows q c)∧q < l.Design.Rows.length∧((0 ≤ c.Number∧c.Number ≤ 59)∧0 ≤ c.Row∧c.Row < ((2 ^ H:Nat):Int))∧U6 l d=true∧∀ i,(hi:i < l.Design.Rows.length)→∀ w,w < l.Harness.Warps.length→((if i=q then Ua H c else l.Design.Rows[i]):Int).toNat.testBit (hkF l w)=rcF l [d] i w) ?_ fun m hm=>?_)))
 ·rcases hd with ⟨q, k, rfl, hq, hk⟩ | ⟨q, rfl, hq⟩
  ·obtain ⟨r, hr1, hr2, _⟩ := Xq hd6 hq
   have hlq:q < (Hw l.Design.Rows).length:=by rw [Hv]; exact hq
   have e1:idx (Hw l.Design.Rows) (q:Int)=some (⟨q,r,false⟩:Z8):=by rw [Xu hlq,Dh hlq hq,hr1]
   have p62:(2:Nat) ^ H < 2 ^ 62:=Nat.pow_lt_pow_right (by decide) (by omega)
   have pk:(2:Nat) ^ k < 2 ^ H:=Nat.pow_lt_pow_right (by decide) hk
   have e2:Hb 1 (Qa (k:Int))=some ((2 ^ k:Nat):Int):=by rw [Cp (by omega) (by omega)]; exact S1 (by omega)
   refine Gv _ rfl (Gv _ e1 (T7 rfl (Gv _ e2 (Yes.some ⟨q,⟨q,((r ^^^ 2 ^ k:Nat):Int),false⟩,?_,hq,⟨⟨by show (0:Int) ≤ q; omega,by show (q:Int) ≤ 59; omega⟩,by show (0:Int) ≤ ((r ^^^ 2 ^ k:Nat):Int); omega,?_⟩,?_,E7 hH g hd6 hq hk hr1⟩))))
   ·show (⟨(Pq l).Ties, [⟨⟨[114, 111, 115, 101]⟩, ⟨l.Design.Hooks, (Hw l.Design.Rows).set (Int.toNat (q : Int)) ⟨(q : Int), Qd .xor (r : Int) ((2 ^ k : Nat) : Int), false⟩⟩⟩]⟩ : Gj) = _
    rw [Ai (by omega) (by omega),Int.toNat_natCast]; rfl
   ·have := Nat.xor_lt_two_pow hr2 pk
    show ((r ^^^ 2 ^ k:Nat):Int) < _
    omega
   ·unfold U6
    rw [if_pos rfl]
    have hdh:=hd6.1
    simp [Wc]
    omega
  ·obtain ⟨r, hr1, hr2, _⟩ := Xq hd6 hq
   have hlq:q < (Hw l.Design.Rows).length:=by rw [Hv]; exact hq
   have e1:idx (Hw l.Design.Rows) (q:Int)=some (⟨q,r,false⟩:Z8):=by rw [Xu hlq,Dh hlq hq,hr1]
   refine Gv _ rfl (Gv _ e1 (K3 rfl (Yes.some ⟨q,⟨q,(r:Int),true⟩,?_,hq,⟨⟨by show (0:Int) ≤ q; omega,by show (q:Int) ≤ 59; omega⟩,by show (0:Int) ≤ (r:Int); omega,by show (r:Int) < _; omega⟩,?_,Es hH g hd6 hq hr1 hr2⟩)))
   ·show (⟨(Pq l).Ties, [⟨⟨[114, 111, 115, 101]⟩, ⟨l.Design.Hooks, (Hw l.Design.Rows).set (Int.toNat (q : Int)) ⟨(q : Int), (r : Int), true⟩⟩⟩]⟩ : Gj) = _
    rw [Int.toNat_natCast]; rfl
   ·unfold U6
    rw [if_neg (show ¬ (3:Int)=1 by decide),if_neg (show ¬ (3:Int)=2 by decide),if_pos (.inl rfl)]
    simp [Wc]
    omega
 clear hd
 obtain ⟨q,c,rfl,hq,hc,hdm,he⟩:=hm
 have hcl:=Az (R:=l.Design.Rows) (q:=q) (c:=c)
 have hbB:B3 H ⟨l.Design.Hooks,cdx l.Design.Rows q c⟩:=cdx_ok hd6 hq hc
 have hbR:B3 H ⟨l.Design.Hooks,Hw l.Design.Rows⟩:=bok6 hd6
 have hrl:=Hv l.Design.Rows
 have L1:=blk_at g he
 have L2:=Ik (H:=H) g hd6
 have hm96:=g.w1
 have hm0:=g.w0
 have hwn:w64 ((2:Int) * (l.Design.Rows.length:Int))=((2 * l.Design.Rows.length:Nat):Int):=by rw [Qj (by omega) (by omega)]; omega
 have hn0:0 < l.Design.Rows.length:=g.r0
 have hck:J0 l [d]=0:=Au (L9 g) (by simp) (fun x hx=>by rw [List.mem_singleton.1 hx]; exact hdm)
 have hck0:J0 l []=0:=Au (L9 g) (by simp) (fun x hx=>by cases hx)
 have hds:∀ x ∈ [d],U6 l x=true:=fun x hx=>by rw [List.mem_singleton.1 hx]; exact hdm
 have W1:=s19F (l:=l) (k:=((2 * l.Design.Rows.length:Nat):Int)) (Pi d) (by simp) hds (Rj hck (by omega) (by omega))
 have W2:=s20F (l:=l) (k:=2 * l.Design.Rows.length) (Pi d) (by simp) hds (Rj hck (by omega) (by omega)) (Rj hck0 (by omega) (by omega)) g (by omega)
 have hlB:(Je H l (cdx l.Design.Rows q c)).length=l.Design.Rows.length:=by simp [Je,hcl]
 have hlR:(Je H l (Hw l.Design.Rows)).length=l.Design.Rows.length:=by simp [Je,hrl]
 rw [Int.toNat_natCast] at W1
 clear he hc hq
 generalize hn:l.Design.Rows.length=n at *
 generalize hM:l.Harness.Warps.length=M at *
 rw [hwn]
 refine Gv _ (y2_log (n:=(n:Int)) (by omega)) (Yes.bind ((s8g hH hl hbB (by rw [hcl]; exact Aq (by omega))).mono fun rb hrb=>Gv _ (s9m hl) (Yes.bind ((s8g hH hl hbR (by rw [hrl]; exact Aq (by omega))).mono fun rr hrr=>?_))))
 obtain ⟨a1,a2,a3⟩:=hrb
 obtain ⟨b1,b2,b3⟩:=hrr
 refine Gv _ (s10g hl) (Gv _ W1 (Gv _ (s10g hl) (Gv _ W2 ?_)))
 have hC:(Yx l [d] (2 * n)).length=2 * n:=by unfold Yx; rw [Kx]
 have cAt:∀ i,i < 2 * n→idx (Yx l [d] (2 * n)) (i:Int)=some (Wi M (rcF l [d] (i % n))):=fun i hi=>by
  rw [Xu (by rw [hC]; exact hi)]
  congr 1
  unfold Yx
  rw [Ud,hn,hM]
 have dAt:∀ i,i < 2 * n→idx (Je H l (cdx l.Design.Rows q c) ++ Je H l (cdx l.Design.Rows q c)) (i:Int)=some (Wi M (rcF l [d] (i % n))):=fun i hi=>
  Om (Nu hlB hi (L1 _ (Nat.mod_lt _ hn0)))
 have rAt:∀ i,i < 2 * n→idx (Je H l (Hw l.Design.Rows) ++ Je H l (Hw l.Design.Rows)) (i:Int)=some (Wi M (rcF l [] (i % n))):=fun i hi=>
  Om (Nu hlR hi (L2 _ (Nat.mod_lt _ hn0)))
 have ll:∀ f:Nat→Bool,((Wi M f).b.length:Int)=(M:Int):=fun f=>by rw [Jq]
 have lAt:∀ (f:Nat→Bool) (j:Nat),j < M→idx (Wi M f).b (j:Int)=some (Yj (f j)):=fun f j hj=>by
  rw [Xu (by rw [Jq]; exact hj),Vm]
 generalize hwr:M2 (fun p w=>rcF l [d] (p % n) w) (plF (2 * n) M fun p w=>rcF l [d] (p % n) w != rcF l [] (p % n) w)=wr
 have hRBl:(Je H l (cdx l.Design.Rows q c) ++ Je H l (cdx l.Design.Rows q c)).length=n + n:=by rw [List.length_append,hlB]
 have hRRl:(Je H l (Hw l.Design.Rows) ++ Je H l (Hw l.Design.Rows)).length=n + n:=by rw [List.length_append,hlR]
 generalize Yx l [d] (2 * n)=CL at *
 generalize Je H l (cdx l.Design.Rows q c) ++ Je H l (cdx l.Design.Rows q c)=RB at *
 generalize Je H l (Hw l.Design.Rows) ++ Je H l (Hw l.Design.Rows)=RR at *
 have hwl:wr.length ≤ 2304:=by
  rw [← hwr]
  unfold M2 plF
  rw [List.length_map]
  have:=Bt (fun p w=>rcF l [d] (p % n) w != rcF l [] (p % n) w) (2 * n) M (2 * n)
  have h2:2 * n * M ≤ 24 * 96:=Nat.mul_le_mul (by omega) hm96
  omega
 have hRB:(RB.length:Int)=((2 * n:Nat):Int):=by rw [hRBl]; omega
 have hRR:(RR.length:Int)=((2 * n:Nat):Int):=by rw [hRRl]; omega
 refine Yes.jn (Yes.bind (T7 rfl (T7 (by rw [a1]; rfl) (T7 (by rw [b1]; rfl) (T7 rfl (T7 rfl (T7 (by rw [a2]; rfl) (T7 (by rw [b2]; rfl) ?_))))))))
 refine Gv _ a3 (T7 (by rw [hRB]; simp) (Gv _ b3 (T7 (by rw [hRR]; simp) (Yes.some (T7 (by rw [hC]; simp) ?_)))))
 refine Yes.jn ?_
 refine Yes.upto (2 * n) (by omega) (fun i at_=>0 ≤ at_∧at_ ≤ (wr.length:Int)∧wr.drop at_.toNat=M2 (fun p w=>rcF l [d] (p % n) w) (K9 (fun p w=>rcF l [d] (p % n) w != rcF l [] (p % n) w) (2 * n) M (2 * n - i))) ⟨by omega,by omega,hwr.symm⟩ (fun i at_ k hi hI hk=>?_) (fun at_ k hI=>?_)
 ·obtain ⟨i1, i2, i3⟩ := hI
  refine Yes.jn (K3 (decide_eq_true (by omega)) (Yes.jn (Yes.jn (Yes.bind ?_))))
  refine Gv _ a3 (Gv _ (dAt i hi) (Gv _ (cAt i hi) (T7 (by simp) (Gv _ b3 (Gv _ (rAt i hi) (Gv _ (cAt i hi) (Yes.some (T7 (by rw [ll,ll]; simp) ?_))))))))
  rw [Dz hi] at i3
  refine Yes.upto M (by omega) (fun j at_=>0 ≤ at_∧at_ ≤ (wr.length:Int)∧wr.drop at_.toNat=M2 (fun p w=>rcF l [d] (p % n) w) (Wm (fun w=>rcF l [d] (i % n) w != rcF l [] (i % n) w) i M (M - j) ++ K9 (fun p w=>rcF l [d] (p % n) w != rcF l [] (p % n) w) (2 * n) M (2 * n - (i + 1)))) ⟨i1,i2,i3⟩ (fun j at2 k2 hj hJ hk2=>?_) (fun at2 k2 hJ=>?_)
  ·obtain ⟨j1, j2, j3⟩ := hJ
   rw [Xd hj] at j3
   refine Yes.jn (Gv _ (cAt i hi) (K3 (decide_eq_true (by rw [ll]; omega)) (Yes.jn (Yes.jn ?_))))
   refine Gv _ (cAt i hi) (Gv _ (lAt _ j hj) (Gv _ b3 (Gv _ (rAt i hi) (Gv _ (lAt _ j hj) ?_))))
   rw [Ej]
   cases hD:(rcF l [d] (i % n) j != rcF l [] (i % n) j) with
   | false=>
    rw [hD,if_neg (by simp),List.nil_append] at j3
    exact K3 rfl (hk2 _ ⟨j1,j2,j3⟩)
   | true=>
    rw [hD,if_pos rfl,List.cons_append,List.nil_append] at j3
    obtain ⟨d1,d2,d3⟩:=M9 (show wr.drop at2.toNat=(⟨(i:Int),(j:Int),_⟩:Zy) :: _ from j3)
    have e1:idx wr at2=some (⟨(i:Int),(j:Int),rcF l [d] (((i:Int).toNat) % n) ((j:Int).toNat)⟩:Zy):=by
     unfold idx; rw [if_pos j1]; exact d2
    refine T7 rfl (Yes.jn (Yes.bind (T7 (decide_eq_false (by show ¬ at2 ≥ (wr.length:Int); omega)) (Gv _ e1 (T7 (by simp) (Gv _ e1 (Yes.some (T7 (by simp) ?_))))))))
    refine hk2 _ ⟨?_,?_,?_⟩
    ·rw [Qj (by omega) (by omega)]; omega
    ·rw [Qj (by omega) (by omega)]; omega
    ·rw [Qj (by omega) (by omega), show (at2 + 1).toNat = at2.toNat + 1 by omega]
     exact d3
  ·obtain ⟨j1, j2, j3⟩ := hJ
   refine Yes.jn (Gv _ (cAt i hi) (T7 (decide_eq_false (by rw [ll]; omega)) (hk _ ⟨j1,j2,?_⟩)))
   rw [j3,Nat.sub_self]; rfl
 ·obtain ⟨i1, i2, i3⟩ := hI
  rw [Nat.sub_self] at i3
  have hlen:at_=(wr.length:Int):=by
   have h0:wr.drop at_.toNat=[]:=i3
   have:=List.drop_eq_nil_iff.1 h0
   omega
  refine Yes.jn (T7 (decide_eq_false (by show ¬ ((2 * n:Nat):Int) < ((2 * n:Nat):Int); omega)) (Yes.bind (K3 (by rw [hlen]; simp) (faults.mono fun r hr=>Yes.some hr))))
end Go.Proofs.YtepehlhgkipcoaaGreatDoor
