/- Plain laws: what box.Groups answers; the reference's orders. -/
import Derived.Test.YtmpjooneiaiffaaLawGE
set_option maxRecDepth 8000
namespace Go.Proofs.Ytmpjooneiaiffaa
open Go.RowKit
open Classical

theorem OsG.len : ∀ {gs : List (List Int)} {o : List Int}, OsG gs o → o.length = gs.flatten.length
 | [],_,h=>by rw [show _=[] from h]; rfl
 | x :: xs,_,⟨p,q,h,hp,hq⟩=>by rw [h,List.length_append,hp.length_eq,OsG.len hq,List.flatten_cons,List.length_append]
theorem OsG.snoc {x : List Int} : ∀ {xs : List (List Int)} {o : List Int}, OsG (xs ++ [x]) o ↔ ∃ p q, o = p ++ q ∧ OsG xs p ∧ q.Perm x
 | [],o=>by
  constructor
  ·rintro ⟨p, q, rfl, hp, hq⟩
   rw [show q=[] from hq]
   exact ⟨[],p,by simp,rfl,hp⟩
  ·rintro ⟨p, q, rfl, hp, hq⟩
   rw [show p=[] from hp]
   exact ⟨q,[],by simp,hq,rfl⟩
 | y :: ys,o=>by
  constructor
  ·rintro ⟨p, q, rfl, hp, hq⟩
   obtain ⟨a,b,rfl,ha,hb⟩:=OsG.snoc.1 hq
   exact ⟨p ++ a,b,by simp,⟨p,a,rfl,hp,ha⟩,hb⟩
  ·rintro ⟨_, q, rfl, ⟨a, b, rfl, ha, hb⟩, hq⟩
   exact ⟨a,b ++ q,by simp,ha,OsG.snoc.2 ⟨b,q,rfl,hb,hq⟩⟩
theorem rest_zero (gs:List (List Int)):(rest gs 0 0).flatten.length=gs.flatten.length∧∀ o,OsG (rest gs 0 0) o ↔ OsG gs o:=by
 unfold rest
 rw [Vz]
 cases gs with
 | nil=>exact ⟨rfl,fun o=>OsG.nil_cons⟩
 | cons x xs=>exact ⟨rfl,fun o=>Iff.rfl⟩
section
variable {l:BoxLoom} {gs:List (List Int)}
structure Best (l : BoxLoom) (gs : List (List Int)) (o : List Int) (M : Int) : Prop where
 os:OsG gs o
 mv:cL o l=M
 lt:M < Ti
 le:∀ o',OsG gs o'→M ≤ cL o' l
 lx:∀ o',OsG gs o'→cL o' l=M→Lx o o'
theorem Best.one {o o':List Int} {M M':Int} (h:Best l gs o M) (k:Best l gs o' M'):o=o'∧M=M':=by
 have e:M=M':=by
  have h1:=h.le _ k.os; have h2:=k.le _ h.os; have h3:=h.mv; have h4:=k.mv; omega
 subst e
 exact ⟨(h.lx _ k.os k.mv).eq (k.lx _ h.os h.mv) (by rw [h.os.len,k.os.len]),rfl⟩
theorem grp (hl : LOk l) (hg : gs.length ≤ 8) (h3 : ∀ g ∈ gs, g.length ≤ 3) (hc : ∀ g ∈ gs, g.all (btw 0 9) = true) (h12 : gs.flatten.length ≤ 12) :
  Yes (f25 l gs) fun r=>((∀ o,OsG gs o→Ti ≤ cL o l)∧r=([],0,9)) ∨ ∃ o M,r=(o,M,0)∧Best l gs o M:=by
 obtain ⟨q1,q2,q3⟩:=Ms (gs:=gs) (gs.length - 0) (g:=0) (d:=0) rfl (by omega) (fun _=>rfl) (fun _=>Nat.zero_le _)
 obtain ⟨z1,z2⟩:=rest_zero gs
 have hf:=s65 (gs:=gs) (by omega) h3 (rc l) (g:=0) (d:=0) (by omega) (by omega)
 generalize hs:stl gs (gs.length - 0) 0 0=st at q1 q2 q3 hf
 have hV:VG gs ⟨(st.1:Int),(st.2:Int),rc l⟩ gs.flatten.length:=⟨_,_,rfl,rfl,by rw [q2,z1],q1⟩
 have hN:=nx_grp (gs:=gs) (by omega) h3
 have hO:∀ o,Ru (NG gs) gs.flatten.length (st.1:Int) (st.2:Int) o ↔ OsG gs o:=fun o=>by
  rw [ord_os h3 gs.flatten.length q1 (by rw [q2,z1]),q3,z2]
 have hR:∀ o,cR (nbx l 0) (nbx l 1) o (rc l)=cL o l:=fun o=>Ao o hl rfl
 have hle:∀ o,OsG gs o→cs l gs gs.flatten.length ⟨(st.1:Int),(st.2:Int),rc l⟩ ≤ cL o l:=fun o ho=>by
  have h1:=Ba (l:=l) hN (pt:=⟨(st.1:Int),(st.2:Int),rc l⟩) ⟨l,hl,rfl,rfl⟩ hV ((hO o).2 ho)
  rw [show (⟨(st.1:Int),(st.2:Int),rc l⟩:Gd).race=rc l from rfl,hR] at h1; exact h1
 refine (s25 hl hg h3 hc hN hf rfl hV h12 rfl).mono fun r hr=>?_
 by_cases hlt:cs l gs gs.flatten.length ⟨(st.1:Int),(st.2:Int),rc l⟩ < Ti
 ·obtain ⟨a1, a2, a3⟩ := hr.2 hlt
  refine .inr ⟨r.1,_,Prod.ext rfl a1,(hO _).1 a2.1,?_,hlt,hle,fun o' ho' hm=>a3 o' ⟨(hO _).2 ho',?_⟩⟩
  ·rw [← hR]; exact a2.2
  ·show cR (nbx l 0) (nbx l 1) o' (rc l) = _
   rw [hR]; exact hm
 ·exact .inl ⟨fun o ho=>by have:=hle o ho; omega,hr.1 (by omega)⟩
end
/-! ### The reference -/
theorem Sm {α:Type} {xs:List α} {i:Nat} (h:i ≤ xs.length):cut xs 0 (i:Int)=some (xs.take i):=by
 unfold cut; rw [if_pos ⟨by omega,by omega,by omega⟩]; simp
theorem Fu {α:Type} {xs:List α} {i:Nat} (h:i ≤ xs.length):cut xs (i:Int) (xs.length:Int)=some (xs.drop i):=by
 unfold cut; rw [if_pos ⟨by omega,by omega,by omega⟩]; simp
theorem Li {x:List Int} {j:Nat} (hj:j < x.length):(x[j] :: x.eraseIdx j).Perm x:=by
 rw [List.eraseIdx_eq_take_drop_succ]
 refine List.perm_middle.symm.trans (List.Perm.of_eq ?_)
 rw [← List.drop_eq_getElem_cons hj,List.take_append_drop]
theorem pow6 {a b:Nat} (h:a ≤ b):6 ^ a ≤ 6 ^ b:=Nat.pow_le_pow_right (by decide) h
theorem s92 : ∀ (m n : Nat) {x : List Int}, x.length = m → m < n → m ≤ 3 → Yes (f92 n x) fun ps => ps.length ≤ 6 ^ m ∧ ∀ p, p ∈ ps ↔ p.Perm x
 | _,0,_,_,h,_=>absurd h (Nat.not_lt_zero _)
 | 0,n + 1,x,hx,_,_=>by
  obtain rfl:=List.length_eq_zero_iff.1 hx
  rw [f92]
  refine Yes.jn (Qr rfl (Yes.some ⟨by simp,fun p=>?_⟩))
  rw [List.mem_singleton]
  exact ⟨fun h=>h ▸ List.Perm.refl _,fun h=>List.Perm.eq_nil h⟩
 | m + 1,n + 1,x,hx,hn,hm=>by
  rw [f92]
  have h6:6 ^ (m + 1)=6 ^ m * 6:=Nat.pow_succ ..
  have h6m:6 ^ m ≤ 36:=Nat.le_trans (pow6 (show m ≤ 2 by omega)) (by decide)
  refine Yes.jn (Tw (beq_eq_false_iff_ne.2 (by omega)) (Yes.bind (Yes.mono (Q':=fun r:List (List Int)=>r.length ≤ (m + 1) * 6 ^ m∧∀ p,p ∈ r ↔ ∃ (j:Nat) (hj:j < x.length),j < x.length∧∃ q:List Int,p=x[j] :: q∧q.Perm (x.eraseIdx j)) ?_ fun r hr=>Yes.some ⟨?_,fun p=>?_⟩)))
  ·refine Yes.upto x.length (by omega) (fun i (r : List (List Int)) => r.length ≤ i * 6 ^ m ∧ ∀ p, p ∈ r ↔ ∃ (j : Nat) (hj : j < x.length), j < i ∧ ∃ q : List Int, p = x[j] :: q ∧ q.Perm (x.eraseIdx j)) ⟨by simp, fun p => by simp⟩ (fun i r k hi hI hk => ?_) (fun r k hI => ?_)
   ·obtain ⟨i1, i2⟩ := hI
    have hw:w64 ((i:Int) + 1)=((i + 1:Nat):Int):=by rw [Tl (by omega) (by omega)]; omega
    have hel:(x.eraseIdx i).length=m:=by rw [List.length_eraseIdx_of_lt hi]; omega
    have him:i * 6 ^ m ≤ 3 * 36:=Nat.mul_le_mul (by omega) h6m
    refine Yes.jn (Qr (decide_eq_true (by omega)) (Yes.bind ?_))
    rw [hw]
    refine Gj _ (Sm (by omega)) (Yes.bind (Yes.apnd (by simp; omega) (by simp; omega) (Gj _ (Fu (by omega)) (Yes.bind (Yes.apnd (by simp; omega) (by simp; omega) ?_)))))
    rw [List.nil_append,← List.eraseIdx_eq_take_drop_succ]
    refine Yes.bind ((s92 m n hel (by omega) (by omega)).mono fun v hv=>?_)
    obtain ⟨v1,v2⟩:=hv
    refine Yes.mono (Q':=fun a:List (List Int)=>a.length ≤ (i + 1) * 6 ^ m∧∀ p,p ∈ a ↔ p ∈ r ∨ ∃ q ∈ v,p=x[i] :: q) ?_ fun a ha=>?_
    ·refine Yes.upto v.length (by omega) (fun t (a : List (List Int)) => a.length = r.length + t ∧ ∀ p, p ∈ a ↔ p ∈ r ∨ ∃ q ∈ v.take t, p = x[i] :: q) ⟨rfl, fun p => by simp⟩ (fun t a k2 ht hI2 hk2 => ?_) (fun a k2 hI2 => ?_)
     ·obtain ⟨j1, j2⟩ := hI2
      have hvl:=((v2 _).1 (List.getElem_mem ht)).length_eq
      refine Yes.jn (Qr (decide_eq_true (by omega)) (Yes.bind (Yes.bind (Yes.idx rfl hi (Yes.bind (Yes.idx rfl ht (Yes.bind (Yes.apnd (by simp; omega) (by simp; omega) (Yes.bind (Yes.apnd (by simp; omega) (by simp; omega) (Yes.some (hk2 _ ⟨by simp; omega,fun p=>?_⟩))))))))))))
      rw [List.mem_append,j2,List.mem_singleton,Kl ht]
      constructor
      ·rintro ((h | ⟨q, hq, rfl⟩) | rfl)
       ·exact .inl h
       ·exact .inr ⟨q,List.mem_append_left _ hq,rfl⟩
       ·exact .inr ⟨v[t],List.mem_append_right _ (List.mem_singleton.2 rfl),rfl⟩
      ·rintro (h | ⟨q, hq, rfl⟩)
       ·exact .inl (.inl h)
       ·rcases List.mem_append.1 hq with hq | hq
        ·exact .inl (.inr ⟨q,hq,rfl⟩)
        ·rw [List.mem_singleton.1 hq]; exact .inr rfl
     ·obtain ⟨j1, j2⟩ := hI2
      refine Yes.jn (Tw (decide_eq_false (by simp)) (Yes.some ⟨by rw [Nat.succ_mul]; omega,fun p=>by rw [j2,List.take_length]⟩))
    ·obtain ⟨a1, a2⟩ := ha
     have hk':=hk a ⟨a1,fun p=>?_⟩
     ·rw [hw] at hk'; exact hk'
     rw [a2,i2]
     constructor
     ·rintro (⟨j, hj, h1, h2⟩ | ⟨q, hq, rfl⟩)
      ·exact ⟨j,hj,by omega,h2⟩
      ·exact ⟨i,hi,by omega,q,rfl,(v2 q).1 hq⟩
     ·rintro ⟨j, hj, h1, q, rfl, hq⟩
      by_cases hji:j=i
      ·subst hji; exact .inr ⟨q,(v2 q).2 hq,rfl⟩
      ·exact .inl ⟨j,hj,by omega,q,rfl,hq⟩
   ·obtain ⟨i1, i2⟩ := hI
    exact Yes.jn (Tw (decide_eq_false (by simp)) (Yes.some ⟨by rw [← hx]; exact i1,i2⟩))
  ·have := hr.1
   have:(m + 1) * 6 ^ m ≤ 6 ^ m * 6:=by rw [Nat.mul_comm]; exact Nat.mul_le_mul_left _ (by omega)
   omega
  ·rw [hr.2]
   constructor
   ·rintro ⟨j, hj, _, q, rfl, hq⟩
    exact (hq.cons _).trans (Li hj)
   ·intro hp
    cases p with
    | nil=>have:=hp.length_eq; simp at this; omega
    | cons c q=>
     have hc:c ∈ x:=hp.mem_iff.1 (by simp)
     obtain ⟨j,hj,rfl⟩:=List.getElem_of_mem hc
     exact ⟨j,hj,hj,q,rfl,(hp.trans (Li hj).symm).cons_inv⟩
theorem s68 {gs:List (List Int)} (hg:gs.length ≤ 8) (h3:∀ g ∈ gs,g.length ≤ 3) (h4:gs.flatten.length ≤ 4):Yes (f68 gs) fun os=>os.length ≤ 1296∧∀ o,o ∈ os ↔ OsG gs o:=by
 have hfl:∀ i,(gs.take i).flatten.length ≤ 4:=fun i=>by
  have:gs.flatten.length=(gs.take i).flatten.length + (gs.drop i).flatten.length:=by
   rw [← List.length_append,← List.flatten_append,List.take_append_drop]
  omega
 unfold f68
 refine Yes.bind (Yes.mono (Q':=fun os:List (List Int)=>os.length ≤ 1296∧∀ o,o ∈ os ↔ OsG gs o) ?_ fun os h=>Yes.some h)
 refine Yes.upto gs.length (by omega) (fun i (t:List (List Int))=>t.length ≤ 6 ^ (gs.take i).flatten.length∧∀ o,o ∈ t ↔ OsG (gs.take i) o) ⟨by simp,fun o=>by simp [OsG]⟩ (fun i t k hi hI hk=>?_) (fun t k hI=>?_)
 ·obtain ⟨i1, i2⟩ := hI
  have hb:=hfl i
  have hb2:=hfl (i + 1)
  have e1:=Be hi
  have e2:(gs.take (i + 1)).flatten.length=(gs.take i).flatten.length + gs[i].length:=by rw [e1,List.length_append]
  have hx3:=h3 _ (List.getElem_mem hi)
  have t1:t.length ≤ 1296:=Nat.le_trans i1 (Nat.le_trans (pow6 hb) (by decide))
  refine Yes.jn (Qr (decide_eq_true (by omega)) (Yes.bind (Yes.bind (Yes.idx rfl hi (Yes.bind ((s92 gs[i].length big rfl (Sa _ (by omega)) hx3).mono fun ps hps=>?_))))))
  obtain ⟨p1,p2⟩:=hps
  have p3:ps.length ≤ 216:=Nat.le_trans p1 (Nat.le_trans (pow6 hx3) (by decide))
  have hmul:t.length * ps.length ≤ 6 ^ (gs.take (i + 1)).flatten.length:=by
   rw [e2,Nat.pow_add]; exact Nat.mul_le_mul i1 p1
  have hmul2:6 ^ (gs.take (i + 1)).flatten.length ≤ 1296:=Nat.le_trans (pow6 hb2) (by decide)
  refine Yes.bind (Yes.mono (Q':=fun v:List (List Int)=>v.length=t.length * ps.length∧∀ o,o ∈ v ↔ ∃ p ∈ t,∃ q ∈ ps,o=p ++ q) ?_ fun v hv=>Yes.some (hk v ⟨by rw [hv.1]; exact hmul,fun o=>?_⟩))
  ·refine Yes.upto t.length (by omega) (fun a (v : List (List Int)) => v.length = a * ps.length ∧ ∀ o, o ∈ v ↔ ∃ p ∈ t.take a, ∃ q ∈ ps, o = p ++ q) ⟨by simp, fun o => by simp⟩ (fun a v k2 ha hI2 hk2 => ?_) (fun v k2 hI2 => ?_)
   ·obtain ⟨j1, j2⟩ := hI2
    have hal:a * ps.length + ps.length ≤ 1296:=by
     have:(a + 1) * ps.length ≤ t.length * ps.length:=Nat.mul_le_mul_right _ (by omega)
     rw [Nat.succ_mul] at this; omega
    have hta:=((i2 _).1 (List.getElem_mem ha)).len
    refine Yes.jn (Qr (decide_eq_true (by omega)) (Yes.bind (Yes.mono (Q':=fun u:List (List Int)=>u.length=v.length + ps.length∧∀ o,o ∈ u ↔ o ∈ v ∨ ∃ q ∈ ps,o=t[a] ++ q) ?_ fun u hu=>hk2 u ⟨by rw [hu.1,j1,Nat.succ_mul],fun o=>?_⟩)))
    ·refine Yes.upto ps.length (by omega) (fun b (u : List (List Int)) => u.length = v.length + b ∧ ∀ o, o ∈ u ↔ o ∈ v ∨ ∃ q ∈ ps.take b, o = t[a] ++ q) ⟨rfl, fun o => by simp⟩ (fun b u k3 hb' hI3 hk3 => ?_) (fun u k3 hI3 => ?_)
     ·obtain ⟨n1, n2⟩ := hI3
      have hpl:=((p2 _).1 (List.getElem_mem hb')).length_eq
      refine Yes.jn (Qr (decide_eq_true (by omega)) (Yes.bind (Yes.bind (Yes.idx rfl ha (Yes.bind (Yes.apnd (by simp; omega) (by simp; omega) (Yes.bind (Yes.idx rfl hb' (Yes.bind (Yes.apnd (by simp; omega) (by simp; omega) (Yes.bind (Yes.apnd (by simp; omega) (by simp; omega) (Yes.some (hk3 _ ⟨by simp; omega,fun o=>?_⟩))))))))))))))
      rw [List.mem_append,n2,List.mem_singleton,Kl hb',List.nil_append]
      constructor
      ·rintro ((h | ⟨q, hq, rfl⟩) | rfl)
       ·exact .inl h
       ·exact .inr ⟨q,List.mem_append_left _ hq,rfl⟩
       ·exact .inr ⟨ps[b],List.mem_append_right _ (List.mem_singleton.2 rfl),rfl⟩
      ·rintro (h | ⟨q, hq, rfl⟩)
       ·exact .inl (.inl h)
       ·rcases List.mem_append.1 hq with hq | hq
        ·exact .inl (.inr ⟨q,hq,rfl⟩)
        ·rw [List.mem_singleton.1 hq]; exact .inr rfl
     ·obtain ⟨n1, n2⟩ := hI3
      exact Yes.jn (Tw (decide_eq_false (by simp)) (Yes.some ⟨n1,fun o=>by rw [n2,List.take_length]⟩))
    ·rw [hu.2, j2, Kl ha]
     constructor
     ·rintro (⟨p, hp, h⟩ | ⟨q, hq, rfl⟩)
      ·exact ⟨p,List.mem_append_left _ hp,h⟩
      ·exact ⟨t[a],List.mem_append_right _ (List.mem_singleton.2 rfl),q,hq,rfl⟩
     ·rintro ⟨p, hp, q, hq, rfl⟩
      rcases List.mem_append.1 hp with hp | hp
      ·exact .inl ⟨p,hp,q,hq,rfl⟩
      ·rw [List.mem_singleton.1 hp]; exact .inr ⟨q,hq,rfl⟩
   ·obtain ⟨j1, j2⟩ := hI2
    exact Yes.jn (Tw (decide_eq_false (by simp)) (Yes.some ⟨j1,fun o=>by rw [j2,List.take_length]⟩))
  ·rw [hv.2, List.take_succ_eq_append_getElem hi, OsG.snoc]
   constructor
   ·rintro ⟨p,hp,q,hq,rfl⟩; exact ⟨p,q,rfl,(i2 p).1 hp,(p2 q).1 hq⟩
   ·rintro ⟨p,q,rfl,hp,hq⟩; exact ⟨p,(i2 p).2 hp,q,(p2 q).2 hq,rfl⟩
 ·obtain ⟨i1, i2⟩ := hI
  rw [List.take_length] at i1 i2
  exact Yes.jn (Tw (decide_eq_false (by simp)) (Yes.some ⟨Nat.le_trans i1 (Nat.le_trans (pow6 h4) (by decide)),i2⟩))
end Go.Proofs.Ytmpjooneiaiffaa
