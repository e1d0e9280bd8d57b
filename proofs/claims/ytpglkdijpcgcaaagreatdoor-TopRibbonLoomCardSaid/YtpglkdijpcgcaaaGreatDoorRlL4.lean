/- Laws of plain functions, part 4. -/
import Derived.Test.YtpglkdijpcgcaaaGreatDoorRlL3
set_option maxRecDepth 8000
namespace Go.Proofs.YtpglkdijpcgcaaaGreatDoor
open Go.RowKit
open Classical
theorem psh {m:LoomMill} {l:List Z5} {st:LoomStop} {p:List Z3} (M:Made m l p) (hst:0≤st.Days.Low∧st.Days.Low≤st.Days.High∧st.Days.High≤98) {A:List Nat} (hA:∀ n,n∈A↔n<p.length∧(rn p n).Loom=st.Loom) (hpw:A.Pairwise fun a b=>bef (rn p a) (rn p b)) (hA7:A.length≤7) :
  Psh m l st p (Jb m l st none A p):=by
 have g:=Xb M.ok
 have hl7:=g.l7
 have hc:=g.c
 have hnl:=M.n
 have hAl:∀ a∈A,a<p.length:=fun a ha=>((hA a).1 ha).1
 have hnd:A.Nodup:=hpw.imp fun {a b} h e=>by subst e;exact Hq h
 have hat:=Me (m:=m) (l:=l) (st:=st) A none p hnd hAl (fun j e=>by cases e)
 have hout:=fun i (hi:i∉A)=>V8 (m:=m) (l:=l) (st:=st) A none p hi hAl
 have hlen:=Fp (m:=m) (l:=l) (st:=st) A none p
 generalize Jb m l st none A p=q at hat hout hlen
 obtain ⟨K,F,hf⟩:=M.fits
 have hrun:=fun i (hi:i<p.length)=>Fu g M.seq (by omega) hf hi
 have hgn:=fun i j=>Sc (l:=l) hc.1 i j
 have hg5:∀ i j,gap m l i j≤5:=fun i j=>by unfold gap;have:=M.c5;split<;>omega
 have hw:∀ j:Nat,j<p.length→1≤(od l (j:Int)).Woven∧(od l (j:Int)).Woven≤15:=fun j hj=>⟨(g.od (show j<l.length by omega)).2.2.1.1,M.w15 j (by omega)⟩
 have hord:∀ i,(rn q i).Order=(rn p i).Order∧(rn q i).Loom=(rn p i).Loom:=fun i=>by
  by_cases hi:i∈A
  ·obtain ⟨k,hk,he⟩:=List.getElem_of_mem hi
   rw [hat k i (by rw [List.getElem?_eq_getElem hk,he])]
   exact ⟨rfl,rfl⟩
  ·rw [hout i hi];exact ⟨rfl,rfl⟩
 have hsq:∀ i,i<p.length→(rn q i).Order=(i:Int):=fun i hi=>by rw [(hord i).1];exact M.seq i hi
 -- what the day of a run of the row is
 have h0:∀ a,A[0]?=some a→(rn q a).From=if Yx l st (rn p a) then st.Days.High+1 else (rn p a).From:=fun a ha=>by
  have:=congrArg Z3.From (hat 0 a ha)
  exact this
 have hS:∀ k a b,A[k]?=some a→A[k+1]?=some b→(rn q b).From=if Yx l st (wf (rn p b) (max (rn p b).From ((rn q a).From+(od l (a:Int)).Woven+gap m l a b))) then st.Days.High+1 else max (rn p b).From ((rn q a).From+(od l (a:Int)).Woven+gap m l a b):=fun k a b ha hb=>by
  have haA:=hAl a (List.mem_of_getElem? ha)
  have hbA:=hAl b (List.mem_of_getElem? hb)
  have h1:=congrArg Z3.From (hat (k+1) b hb)
  have h2:prvA none A (k+1)=some a:=ha
  rw [h2] at h1
  simp only [Option.map_some,pdy] at h1
  rw [M.seq b hbA,Jh (hsq a haA)] at h1
  exact h1
 have hP:∀ k b,A[k+1]?=some b→∃ a,A[k]?=some a:=fun k b hb=>by
  have:=(List.getElem?_eq_some_iff.1 hb).1
  exact ⟨A[k],List.getElem?_eq_getElem (by omega)⟩
 have hmh:∀ x:Z3,Yx l st x→x.From≤st.Days.High:=fun x h=>h.1
 have hmw:∀ (x:Z3) (f:Int),Yx l st (wf x f)→f≤st.Days.High:=fun x f h=>h.1
 have hle:∀ i,(rn p i).From≤(rn q i).From:=fun i=>by
  by_cases hi:i∈A
  ·obtain ⟨k,hk,he⟩:=List.getElem_of_mem hi
   have hk2:A[k]?=some i:=by rw [List.getElem?_eq_getElem hk,he]
   cases k with
   | zero=>
    rw [h0 i hk2];split
    ·rename_i hm;have:=hmh _ hm;omega
    ·omega
   | succ k=>
    obtain ⟨a,ha⟩:=hP k i hk2
    rw [hS k a i ha hk2];split
    ·rename_i hm;have:=hmw _ _ hm;omega
    ·omega
  ·rw [hout i hi];omega
 have hadj:∀ k a b,A[k]?=some a→A[k+1]?=some b→(rn q a).From+(od l (a:Int)).Woven+gap m l a b≤(rn q b).From:=fun k a b ha hb=>by
  rw [hS k a b ha hb];split
  ·rename_i hm;have:=hmw _ _ hm;omega
  ·omega
 have hsepA:∀ d k a b,A[k]?=some a→A[k+1+d]?=some b→(rn q a).From+(od l (a:Int)).Woven+gap m l a b≤(rn q b).From:=fun d=>by
  induction d with
  | zero=>exact fun k a b ha hb=>hadj k a b ha hb
  | succ d ih=>
   intro k a b ha hb
   obtain ⟨c,hcc⟩:=hP (k+1+d) b hb
   have h1:=ih k a c ha hcc
   have h2:=hadj _ c b hcc hb
   have h3:=(hw c (hAl c (List.mem_of_getElem? hcc))).1
   have h4:=Lj (l:=l) hc.1 a c b
   have h5:gap m l c b=gap m l b c:=by unfold gap;simp only [eq_comm]
   omega
 have hsep:∀ i j,i<p.length→j<p.length→i≠j→(rn p i).Loom=(rn p j).Loom→(rn q i).From≤(rn q j).From→(rn q i).From+(od l (i:Int)).Woven+gap m l i j≤(rn q j).From:=fun i j hi hj hne hlo hfr=>by
  by_cases hls:(rn p i).Loom=st.Loom
  ·obtain ⟨k,hk,he⟩:=List.getElem_of_mem ((hA i).2 ⟨hi,hls⟩)
   obtain ⟨k',hk',he'⟩:=List.getElem_of_mem ((hA j).2 ⟨hj,hlo▸hls⟩)
   have hk2:A[k]?=some i:=by rw [List.getElem?_eq_getElem hk,he]
   have hk2':A[k']?=some j:=by rw [List.getElem?_eq_getElem hk',he']
   rcases Nat.lt_trichotomy k k' with h | h | h
   ·exact hsepA (k'-(k+1)) k i j hk2 (by rw [show k+1+(k'-(k+1))=k' by omega];exact hk2')
   ·subst h;exact absurd (Option.some.inj (hk2.symm.trans hk2')) hne
   ·have h1:=hsepA (k-(k'+1)) k' j i hk2' (by rw [show k'+1+(k-(k'+1))=k by omega];exact hk2)
    have h2:=(hw j hj).1
    have h3:=hgn j i
    omega
  ·rw [hout i fun h=>hls ((hA i).1 h).2,hout j fun h=>hls (hlo▸((hA j).1 h).2)] at *
   obtain ⟨a1,a2,a3,a4,a5,a6⟩:=hrun i hi
   obtain ⟨b1,b2,b3,b4,b5,b6⟩:=hrun j hj
   have:=hf.sep i j hi hj hne (by omega) (by omega)
   omega
 have htop:∀ (k a:Nat),A[k]?=some a→(rn q a).From+(od l (a:Int)).Woven≤154+20*k:=fun k=>by
  induction k with
  | zero=>
   intro a ha
   have haA:=hAl a (List.mem_of_getElem? ha)
   have h1:=M.b a haA
   have h2:=hw a haA
   rw [h0 a ha];split<;>omega
  | succ k ih=>
   intro b hb
   obtain ⟨a,ha⟩:=hP k b hb
   have hbA:=hAl b (List.mem_of_getElem? hb)
   have h1:=M.b b hbA
   have h2:=hw b hbA
   have h3:=ih a ha
   have h4:=hg5 a b
   rw [hS k a b ha hb];split<;>omega
 have hday:∀ i,i∈A→(rn q i).From=st.Days.High+1∨¬ Yx l st (rn q i)∧((rn q i).From=(rn p i).From∨∃ j,j<p.length∧j≠i∧(rn p j).Loom=(rn p i).Loom∧(rn q i).From=(rn q j).From+(od l (j:Int)).Woven+gap m l j i):=fun i hi=>by
  obtain ⟨k,hk,he⟩:=List.getElem_of_mem hi
  have hk2:A[k]?=some i:=by rw [List.getElem?_eq_getElem hk,he]
  have hme:∀ f,f=(rn q i).From→wf (rn p i) f=rn q i:=fun f hff=>by
   have h1:=hord i
   cases hq:rn q i with | mk o lo fr=>
   cases hp2:rn p i with | mk o' lo' fr'=>
   rw [hq,hp2] at h1
   rw [hq] at hff
   simp only at h1 hff
   simp [wf,h1.1,h1.2,hff]
  cases k with
  | zero=>
   have h1:=h0 i hk2
   by_cases hm:Yx l st (rn p i)
   ·rw [if_pos hm] at h1;exact .inl h1
   ·rw [if_neg hm] at h1
    refine .inr ⟨?_,.inl h1⟩
    have:=hme (rn p i).From h1.symm
    rw [← this];exact hm
  | succ k=>
   obtain ⟨a,ha⟩:=hP k i hk2
   have h1:=hS k a i ha hk2
   have haA:=(hA a).1 (List.mem_of_getElem? ha)
   by_cases hm:Yx l st (wf (rn p i) (max (rn p i).From ((rn q a).From+(od l (a:Int)).Woven+gap m l a i)))
   ·rw [if_pos hm] at h1;exact .inl h1
   ·rw [if_neg hm] at h1
    refine .inr ⟨?_,?_⟩
    ·rw [hme _ h1.symm] at hm;exact hm
    ·by_cases hmx:(rn p i).From≥(rn q a).From+(od l (a:Int)).Woven+gap m l a i
     ·exact .inl (by omega)
     ·refine .inr ⟨a,haA.1,fun e=>?_,by rw [haA.2,((hA i).1 hi).2],by omega⟩
      subst e
      have h5:=(List.getElem?_eq_some_iff.1 ha)
      obtain ⟨h6,h7⟩:=h5
      obtain ⟨h8,h9⟩:=List.getElem?_eq_some_iff.1 hk2
      have:=List.pairwise_iff_getElem.1 hpw k (k+1) h6 h8 (by omega)
      rw [h7,h9] at this
      exact Hq this
 refine ⟨hlen,fun i hi=>hsq i (hlen▸hi),fun i hi hne=>hout i fun h=>hne ((hA i).1 h).2,fun i _=>(hord i).2,fun i _=>hle i,fun i hi=>?_,fun i hi hls hm=>?_,hsep,fun i hi hne=>?_,fun hno i hi=>?_⟩
 ·by_cases hiA:i∈A
  ·obtain ⟨k,hk,he⟩:=List.getElem_of_mem hiA
   have:=htop k i (by rw [List.getElem?_eq_getElem hk,he])
   have:=(hw i hi).1
   omega
  ·rw [hout i hiA]
   have:=hrun i hi
   have:=(hw i hi).1
   omega
 ·rcases hday i ((hA i).2 ⟨hi,hls⟩) with h | h
  ·have:=hmh _ hm;omega
  ·exact h.1 hm
 ·have hiA:i∈A:=by
   by_cases hiA:i∈A
   ·exact hiA
   ·exact absurd (hout i hiA) hne
  have hfne:(rn q i).From≠(rn p i).From:=fun e=>hne (by
   have h1:=hord i
   cases hq:rn q i with | mk o lo fr=>
   cases hp2:rn p i with | mk o' lo' fr'=>
   rw [hq,hp2] at h1 e
   simp only at h1 e
   simp [h1.1,h1.2,e])
  refine ⟨((hA i).1 hiA).2,by have:=hle i;omega,?_⟩
  rcases hday i hiA with h | ⟨_,h | h⟩
  ·exact .inl h
  ·exact absurd h hfne
  ·exact .inr h
 ·by_cases hiA:i∈A
  ·have key:∀ (k a:Nat),A[k]?=some a→rn q a=rn p a:=fun k=>by
    have heq:∀ a,(rn q a).From=(rn p a).From→rn q a=rn p a:=fun a e=>by
     have h1:=hord a
     cases hq:rn q a with | mk o lo fr=>
     cases hp2:rn p a with | mk o' lo' fr'=>
     rw [hq,hp2] at h1 e
     simp only at h1 e
     simp [h1.1,h1.2,e]
    induction k with
    | zero=>
     intro a ha
     have haA:=(hA a).1 (List.mem_of_getElem? ha)
     refine heq a ?_
     rw [h0 a ha,if_neg (hno a haA.1 haA.2)]
    | succ k ih=>
     intro b hb
     obtain ⟨a,ha⟩:=hP k b hb
     have haA:=(hA a).1 (List.mem_of_getElem? ha)
     have hbA:=(hA b).1 (List.mem_of_getElem? hb)
     have h1:=ih a ha
     obtain ⟨h6,h7⟩:=List.getElem?_eq_some_iff.1 ha
     obtain ⟨h8,h9⟩:=List.getElem?_eq_some_iff.1 hb
     have hbef:=List.pairwise_iff_getElem.1 hpw k (k+1) h6 h8 (by omega)
     rw [h7,h9] at hbef
     have hne:a≠b:=fun e=>by subst e;exact Hq hbef
     obtain ⟨a1,a2,a3,a4,a5,a6⟩:=hrun a haA.1
     obtain ⟨b1,b2,b3,b4,b5,b6⟩:=hrun b hbA.1
     have hle2:F a≤F b:=by unfold bef at hbef;omega
     have h2:=hf.sep a b haA.1 hbA.1 hne (by have:=haA.2;have:=hbA.2;omega) hle2
     refine heq b ?_
     have hmx:max (rn p b).From ((rn q a).From+(od l (a:Int)).Woven+gap m l a b)=(rn p b).From:=by rw [h1];omega
     rw [hS k a b ha hb,hmx]
     exact if_neg (hno b hbA.1 hbA.2)
   obtain ⟨k,hk,he⟩:=List.getElem_of_mem hiA
   exact key k i (by rw [List.getElem?_eq_getElem hk,he])
  ·exact hout i hiA
end Go.Proofs.YtpglkdijpcgcaaaGreatDoor
