/- BoxFewests. -/
import Derived.Test.YtmpjooneiaiffaaLawAB
import Derived.Test.YtmpjooneiaiffaaLawGB
set_option maxRecDepth 8000
namespace Go.Proofs.Ytmpjooneiaiffaa
open Go.RowKit
open Classical

theorem s16 (xs:List Int) (h:xs.length ≤ 1000):f16 xs=some xs:=by
 refine Yes.eq ?_
 unfold f16
 exact Yes.bind (Yes.apnd (by simp; omega) (by simp; omega) (Yes.some (by simp)))
theorem s52 (xs:List Int) (h:xs.length ≤ 1000):f52 xs=some (xs.all (btw 0 9)):=by unfold f52; rw [s87 _ _ _ (by omega)]; rfl
theorem Mf {B0 B1:Nat} {gs:List (List Int)} {V:Gd→Nat→Prop}:KOk B0 B1 gs V []:=⟨fun h=>by cases h⟩
theorem s17 {l:BoxLoom} {cs:List Int} (hl:LOk l) (h24:cs.length ≤ 24) (hc:cs.all (btw 0 9)=true):f17 l cs=some (if (rf cs l).2.2=cs.length then ((rf cs l).1,(rf cs l).2.1,0,0) else ([],0,(rf cs l).2.2,9)):=by
 have hR:=Av cs (by omega) hl
 have hfar:=hR.far
 refine Yes.eq ?_
 unfold f17
 refine Gj _ (s51 l hl.sml) (Yes.jn (Tw (by rw [chk0.2 hl]; rfl) (Tw (decide_eq_false (by omega)) (Gj _ (s52 cs (by omega)) (Tw (by rw [hc]; rfl) (Gj _ (s53 cs (by omega)) (Gj _ (s54r hl) (Yes.jn ?_))))))))
 refine Yes.upto cs.length (by omega) (fun t s=>(t:Int) ≤ (rf cs l).2.2∧s=[]) ⟨hfar.1,rfl⟩ (fun t s k ht hI hk=>?_) (fun s k hI=>?_)
 ·obtain ⟨hI, rfl⟩ := hI
  have hcut:cut (sgl cs) 0 (w64 ((t:Int) + 1))=some (sgl (cs.take (t + 1))):=by
   rw [Tl (by omega) (by omega)]
   unfold cut
   rw [if_pos ⟨by omega,by omega,by rw [Jd]; omega⟩,show ((t:Int) + 1).toNat=t + 1 by omega]
   simp [sgl,List.map_take]
  have hlen':(cs.take (t + 1)).length ≤ 1000:=by simp; omega
  have hv:Vs (cs.take (t + 1)) ⟨0,0,rc l⟩ (t + 1):=⟨0,rfl,rfl,by simp; omega⟩
  refine Qr (by simp; omega) (Yes.jn (Gj _ (s56 hl) (Gj _ hcut (Yes.bind ((s57 hl (Cp hlen') (t + 1) big (by unfold big; omega) hl rfl rfl hv Mf).mono fun r hr=>?_)))))
  obtain ⟨hr,_⟩:=hr
  rw [Fq hlen' (t + 1) hl rfl rfl hv,show (cs.take (t + 1)).length - (t + 1)=0 by simp; omega,List.drop_zero] at hr
  have hp:=hR.pre (t + 1) (by omega)
  refine Yes.cond (fun hc=>Yes.some ?_) (fun hc=>hk _ ⟨?_,rfl⟩)
  ·have hge : r.1 ≥ Ti := of_decide_eq_true hc
   have:¬ ((t + 1:Nat):Int) ≤ (rf cs l).2.2:=fun h=>by have:=hp.2 h; omega
   rw [if_neg (by omega),show (rf cs l).2.2=(t:Int) by omega]
  ·have hlt : ¬ r.1 ≥ Ti := of_decide_eq_false hc
   exact hp.1 (by omega)
 ·obtain ⟨hI, rfl⟩ := hI
  have hall:(rf cs l).2.2=cs.length:=by omega
  have hlt:=hR.all.2 hall
  have hv:Vs cs ⟨0,0,rc l⟩ cs.length:=⟨0,rfl,rfl,by omega⟩
  rw [if_pos hall]
  refine Tw (by simp) (Gj _ (s56 hl) (Yes.bind ((s57 hl (Cp (by omega)) cs.length big (by unfold big; omega) hl rfl rfl hv Mf).mono fun r hr=>?_)))
  obtain ⟨hr,hk⟩:=hr
  rw [Fq (by omega) cs.length hl rfl rfl hv,Nat.sub_self,List.drop_zero,← hR.mv hlt] at hr
  rw [hr]
  refine Yes.bind (Yes.mono (Q':=fun s=>s.1=(rf cs l).1) ?_ fun s hs=>Yes.some (by rw [hs]))
  refine Yes.lp (fun s=>∃ k n,LOk n∧n.Boxes=l.Boxes∧s.2.1.race=rc n∧Vs cs s.2.1 k∧KOk (nbx l 0) (nbx l 1) (sgl cs) (Vs cs) s.2.2∧s.1 ++ (rf (cs.drop (cs.length - k)) n).1=(rf cs l).1∧cL (cs.drop (cs.length - k)) n < Ti∧s.1.length + k=cs.length) (fun s=>cs.length - s.1.length) ⟨cs.length,l,hl,rfl,rfl,hv,hk,by rw [Nat.sub_self,List.drop_zero]; rfl,by rw [Nat.sub_self,List.drop_zero]; exact hlt,by simp⟩ (by simp; omega) ?_
  rintro ⟨ps,pt,m⟩ kk ⟨k,n,a1,a2,a3,a4,a5,a6,a7,a8⟩ hkk
  simp only at a3 a4 a5 a6 a8
  have hz:=(Cp (cs:=cs) (by omega)).zero a4
  rw [Jd] at hz
  obtain ⟨g,g1,g2,g3⟩:=id a4
  refine Yes.jn (Yes.cond (fun hc2=>?_) (fun hc2=>Yes.some ?_))
  ·have hlt2 : pt.group < ((sgl cs).length : Int) := of_decide_eq_true hc2
   rw [Jd] at hlt2
   obtain ⟨k,rfl⟩:∃ k',k=k' + 1:=⟨k - 1,by omega⟩
   refine Yes.bind (Yes.bind ((s58 hl (by omega) (by omega) a1 a2 a3 a4 a5 a7).mono fun b hb=>Yes.bind (Yes.apnd (by simp; omega) (by simp; omega) (Yes.some ?_))))
   obtain ⟨n',b1,b2,b3,b4,b5,b6,b7⟩:=hb
   refine hkk _ ⟨k,n',b1,b2,b3,b4,b5,?_,b7,by simp; omega⟩ ?_
   ·show (ps ++ [b.1]) ++ _ = _
    rw [← a6,b6]; simp
   ·show cs.length - (ps ++ [b.1]).length < cs.length - ps.length
    simp; omega
  ·have hge : ¬ pt.group < ((sgl cs).length : Int) := of_decide_eq_false hc2
   rw [Jd] at hge
   have hk0:k=0:=by omega
   subst hk0
   rw [Nat.sub_zero,List.drop_length,rf,List.append_nil] at a6
   exact a6
end Go.Proofs.Ytmpjooneiaiffaa
/- Plain laws: the orders that Groups keeps, round after round. -/
set_option maxRecDepth 8000
namespace Go.Proofs.Ytmpjooneiaiffaa
open Go.RowKit
open Classical

theorem Ay {α : Type} : ∀ {xs ys : List α}, xs.Nodup → (∀ x ∈ xs, x ∈ ys) → xs.length ≤ ys.length
 | [],_,_,_=>Nat.zero_le _
 | x :: xs,ys,hn,hs=>by
  rw [List.nodup_cons] at hn
  obtain ⟨a,b,rfl⟩:=List.append_of_mem (hs x (by simp))
  have:=Ay (xs:=xs) (ys:=a ++ b) hn.2 fun y hy=>by
   have h1:=hs y (by simp [hy])
   have h2:y ≠ x:=fun e=>hn.1 (e ▸ hy)
   rcases List.mem_append.1 h1 with h | h
   ·exact List.mem_append_left _ h
   ·rcases List.mem_cons.1 h with h | h
    ·exact absurd h h2
    ·exact List.mem_append_right _ h
  simp at this ⊢; omega
def Lx : List Int → List Int → Prop
 | [],_=>True
 | _ :: _,[]=>False
 | x :: a,y :: b=>x < y ∨ (x=y∧Lx a b)
theorem Lx.snoc {c : Int} : ∀ {pre o : List Int}, Lx pre o → pre.length < o.length → (∀ c' o', o = pre ++ c' :: o' → c ≤ c') → Lx (pre ++ [c]) o
 | [],o,_,h,hc=>by
  cases o with
  | nil=>simp at h
  | cons y b=>
   have:=hc y b rfl
   show c < y ∨ (c=y∧True)
   by_cases e:c=y
   ·exact .inr ⟨e,trivial⟩
   ·exact .inl (by omega)
 | x :: a,o,hx,h,hc=>by
  cases o with
  | nil=>exact hx.elim
  | cons y b=>
   rcases hx with hx | ⟨rfl,hx⟩
   ·exact .inl hx
   ·exact .inr ⟨rfl,Lx.snoc hx (by simpa using h) fun c' o' e=>hc c' o' (by rw [e]; rfl)⟩
theorem Lx.eq : ∀ {a b : List Int}, Lx a b → Lx b a → a.length = b.length → a = b
 | [],[],_,_,_=>rfl
 | [],_ :: _,_,_,h=>by simp at h
 | _ :: _,[],_,_,h=>by simp at h
 | x :: a,y :: b,h1,h2,h=>by
  rcases h1 with h1 | ⟨rfl,h1⟩
  ·rcases h2 with h2 | ⟨rfl,_⟩ <;> omega
  ·rcases h2 with h2 | ⟨_, h2⟩
   ·omega
   ·rw [Lx.eq h1 h2 (by simpa using h)]
theorem Ru.len {N : Int → Int → Int → Option (Int × Int)} : ∀ {k : Nat} {g d : Int} {o : List Int}, Ru N k g d o → o.length = k
 | 0,_,_,_,h=>by rw [show _=[] from h]; rfl
 | k + 1,_,_,_,⟨c,o',g',d',h,_,h2⟩=>by rw [h,List.length_cons,Ru.len h2]
section
variable {l:BoxLoom} {gs:List (List Int)} {V:Gd→Nat→Prop} {N:Int→Int→Int→Option (Int × Int)} {K:Nat} {first:Gd} {M:Int}
def Opt (l:BoxLoom) (N:Int→Int→Int→Option (Int × Int)) (K:Nat) (first:Gd) (M:Int) (o:List Int):Prop:=Ru N K first.group first.done o∧cR (nbx l 0) (nbx l 1) o first.race=M
structure GI (l : BoxLoom) (gs : List (List Int)) (V : Gd → Nat → Prop) (N : Int → Int → Int → Option (Int × Int)) (K : Nat) (first : Gd) (M : Int) (k : Nat) (pre : List Int) (now : List (Gd × Int)) : Prop where
 ne:now ≠ []
 v:∀ e ∈ now,Rok l e.1.race∧V e.1 k∧0 ≤ e.2∧e.2 + cs l gs k e.1=M
 b:∀ o,(∃ e ∈ now,Ru N k e.1.group e.1.done o∧e.2 + cR (nbx l 0) (nbx l 1) o e.1.race=M) ↔ Opt l N K first M (pre ++ o)
 c:∀ o,Opt l N K first M o→Lx pre o
 len:pre.length + k=K
 sz:now.length ≤ 16 ^ pre.length
theorem GI.start (hr : Rok l first.race) (hv : V first K) (hM : cs l gs K first = M) : GI l gs V N K first M K [] [(first, 0)] where
 ne:=by simp
 v:=fun e he=>by rw [List.mem_singleton.1 he]; exact ⟨hr,hv,Int.le_refl _,by rw [Int.zero_add]; exact hM⟩
 b:=fun o=>by simp [Opt]
 c:=fun o _=>trivial
 len:=by simp
 sz:=by simp
theorem GI.elig (hN : Nx gs V N) (hM : M < Ti) {k : Nat} {pre : List Int} {now : List (Gd × Int)} (h : GI l gs V N K first M (k + 1) pre now) {c : Int} {o : List Int} (ho : Opt l N K first M (pre ++ c :: o)) :
  ∃ to v,ElN l gs N k M now c to v∧Ru N k to.group to.done o∧v + cR (nbx l 0) (nbx l 1) o to.race=M:=by
 obtain ⟨e,he,⟨c',o',g',d',heq,hn,ho'⟩,hc⟩:=(h.b _).2 ho
 cases heq
 obtain ⟨hr,hv,h0,hs⟩:=h.v e he
 rw [show cR (nbx l 0) (nbx l 1) (c :: o) e.1.race=(pkR (nbx l 0) (nbx l 1) e.1.race).foldl (mnF (cRF c (cR (nbx l 0) (nbx l 1) o))) Ti from rfl] at hc
 rcases (Se (φ:=cRF c (cR (nbx l 0) (nbx l 1) o)) (t:=M - e.2) (pkR (nbx l 0) (nbx l 1) e.1.race) Ti).1 (by omega) with hh | ⟨s,hs',u,hu,hu2⟩
 ·omega
 unfold cRF at hu
 split at hu
 ·rename_i hcol
  subst hcol
  cases hu
  obtain ⟨r1,r2,_⟩:=hr.pk hs'
  have hv':=hN.to (s:=s.2) hv hn
  have e1:=Ba (l:=l) hN (pt:=⟨g',d',s.2.next⟩) r1 hv' ho'
  have e2:=cst_step (l:=l) hN hv hs' hn
  have e3:e.2 + s.2.moves + cs l gs k ⟨g',d',s.2.next⟩=M:=by
   have a1:cs l gs k ⟨g',d',s.2.next⟩ ≤ cR (nbx l 0) (nbx l 1) o s.2.next:=e1
   have a2:cs l gs (k + 1) e.1 ≤ s.2.moves + cs l gs k ⟨g',d',s.2.next⟩:=e2
   omega
  refine ⟨⟨g',d',s.2.next⟩,e.2 + s.2.moves,⟨e,he,s,hs',rfl,hn,rfl,rfl,e3⟩,ho',?_⟩
  have a1:cs l gs k ⟨g',d',s.2.next⟩ ≤ cR (nbx l 0) (nbx l 1) o s.2.next:=e1
  show e.2 + s.2.moves + cR (nbx l 0) (nbx l 1) o s.2.next=M
  omega
 ·cases hu
theorem pkR_len (hl:LOk l) (r:Gu):(pkR (nbx l 0) (nbx l 1) r).length ≤ 16:=Nat.le_trans (List.length_filterMap_le _ _) (Oe hl)
theorem Ih {α β : Type} {f : α → List β} {n : Nat} (h : ∀ x, (f x).length ≤ n) : ∀ xs : List α, (xs.flatMap f).length ≤ xs.length * n
 | []=>by simp
 | x :: xs=>by
  have:=Ih h xs
  have:=h x
  rw [List.flatMap_cons,List.length_append,List.length_cons,Nat.succ_mul]; omega
theorem GI.step (hl : LOk l) (hN : Nx gs V N) (hM : M < Ti) {k : Nat} {pre : List Int} {now : List (Gd × Int)} (h : GI l gs V N K first M (k + 1) pre now) {col : Int} {nxt : Option (List (Gd × Int))} (hJ : J (ElN l gs N k M now) col nxt) :
  ∃ nx,nxt=some nx∧GI l gs V N K first M k (pre ++ [col]) nx:=by
 have hex:∃ c to v,ElN l gs N k M now c to v:=by
  obtain ⟨e,he⟩:=List.exists_mem_of_ne_nil _ h.ne
  obtain ⟨hr,hv,h0,hs⟩:=h.v e he
  rcases (Mk hN (k + 1) (t:=cs l gs (k + 1) e.1) hr hv).1 (Int.le_refl _) with hh | ⟨o,ho,hh⟩
  ·omega
  ·have h2 := Ba (l := l) hN hr hv ho
   have h3:cs l gs (k + 1) e.1 ≤ cR (nbx l 0) (nbx l 1) o e.1.race:=h2
   have hO:=(h.b o).1 ⟨e,he,ho,by omega⟩
   obtain ⟨c,o',_,_,rfl,_,_⟩:=ho
   obtain ⟨to,v,h4,_⟩:=h.elig hN hM hO
   exact ⟨c,to,v,h4⟩
 rcases hJ with ⟨_,_,hno⟩ | ⟨nx,hnx,hc9,⟨t0,v0,h0⟩,hmin,his⟩
 ·obtain ⟨c,to,v,hh⟩:=hex; exact absurd hh (hno c to v)
 refine ⟨nx,hnx,?_,?_,?_,?_,?_,?_⟩
 ·intro hn
  have:=(his.2 t0 v0).2 h0
  rw [hn] at this; cases this
 ·rintro ⟨to, v⟩ he
  obtain ⟨e,he',s,hs,c1,c2,c3,c4,c5⟩:=(his.2 to v).1 he
  obtain ⟨hr,hv,hb,_⟩:=h.v e he'
  obtain ⟨r1,r2,_⟩:=hr.pk hs
  have hv':=hN.to (s:=s.2) hv c2
  refine ⟨by show Rok l to.race; rw [c3]; exact r1,?_,by show 0 ≤ v; omega,c5⟩
  show V to k
  obtain ⟨tg,td,tr⟩:=to
  simp only at c3 hv'
  rw [c3]; exact hv'
 ·intro o
  have hassoc:pre ++ [col] ++ o=pre ++ col :: o:=by simp
  rw [hassoc]
  constructor
  ·rintro ⟨⟨to, v⟩, he, ho, hc⟩
   obtain ⟨e,he',s,hs,c1,c2,c3,c4,c5⟩:=(his.2 to v).1 he
   obtain ⟨hr,hv,hb,hsum⟩:=h.v e he'
   simp only at ho hc
   have hO:Ru N (k + 1) e.1.group e.1.done (col :: o):=⟨col,o,to.group,to.done,rfl,by rw [c1]; exact c2,ho⟩
   refine (h.b (col :: o)).1 ⟨e,he',hO,?_⟩
   have h2:cs l gs (k + 1) e.1 ≤ cR (nbx l 0) (nbx l 1) (col :: o) e.1.race:=Ba (l:=l) hN hr hv hO
   have h3:cR (nbx l 0) (nbx l 1) (col :: o) e.1.race ≤ s.2.moves + cR (nbx l 0) (nbx l 1) o s.2.next:=by
    rw [cR,Se]
    exact .inr ⟨s,hs,_,by unfold cRF; rw [if_pos c1.symm],Int.le_refl _⟩
   rw [c3] at hc
   omega
  ·intro hO
   obtain ⟨to,v,h1,h2,h3⟩:=h.elig hN hM hO
   exact ⟨(to,v),(his.2 to v).2 h1,h2,h3⟩
 ·intro o hO
  have hlen:=hO.1.len
  refine (h.c o hO).snoc (by have:=h.len; omega) fun c' o' e=>?_
  subst e
  obtain ⟨to,v,h1,_⟩:=h.elig hN hM hO
  exact hmin _ _ _ h1
 ·have:=h.len; simp; omega
 ·have hnd : nx.Nodup := (List.pairwise_map.1 his.1).imp fun h e => h (by rw [e])
  have h1:=Ay (ys:=now.flatMap fun e=>(pkR (nbx l 0) (nbx l 1) e.1.race).map fun s=>((⟨((N e.1.group e.1.done s.2.colour).getD (0,0)).1,((N e.1.group e.1.done s.2.colour).getD (0,0)).2,s.2.next⟩:Gd),e.2 + s.2.moves)) hnd fun x hx=>by
   obtain ⟨to,v⟩:=x
   obtain ⟨e,he',s,hs,c1,c2,c3,c4,c5⟩:=(his.2 to v).1 hx
   refine List.mem_flatMap.2 ⟨e,he',List.mem_map.2 ⟨s,hs,?_⟩⟩
   rw [c2,← c4,← c3]; rfl
  have h2:=Ih (f:=fun e:Gd × Int=>(pkR (nbx l 0) (nbx l 1) e.1.race).map fun s=>((⟨((N e.1.group e.1.done s.2.colour).getD (0,0)).1,((N e.1.group e.1.done s.2.colour).getD (0,0)).2,s.2.next⟩:Gd),e.2 + s.2.moves)) (n:=16) (fun e=>by rw [List.length_map]; exact pkR_len hl _) now
  have h3:=h.sz
  rw [List.length_append,List.length_singleton,Nat.pow_succ]
  exact Nat.le_trans h1 (Nat.le_trans h2 (Nat.mul_le_mul_right _ h3))
theorem GI.fin {pre:List Int} {now:List (Gd × Int)} (h:GI l gs V N K first M 0 pre now):Opt l N K first M pre∧∀ o,Opt l N K first M o→Lx pre o:=by
 obtain ⟨e,he⟩:=List.exists_mem_of_ne_nil _ h.ne
 obtain ⟨_,_,_,hs⟩:=h.v e he
 have:=(h.b []).1 ⟨e,he,rfl,by rw [cR]; exact hs⟩
 rw [List.append_nil] at this
 exact ⟨this,h.c⟩
end
end Go.Proofs.Ytmpjooneiaiffaa
/- Plain laws: box.Groups. -/
set_option maxRecDepth 8000
namespace Go.Proofs.Ytmpjooneiaiffaa
open Go.RowKit
open Classical

theorem s64 (xs:List (List Int)) (φ:List Int→Option Bool) (p:List Int→Bool) (hl:xs.length < 9223372036854775807) (h:∀ a ∈ xs,φ a=some (p a)):f64 xs φ=some (xs.any p):=
 Yes.eq (Yes.bind (Yes.mono (Lb xs φ p hl h) fun _ hr=>Yes.some (Rm hr)))
theorem Be {gs:List (List Int)} {i:Nat} (h:i < gs.length):(gs.take (i + 1)).flatten=(gs.take i).flatten ++ gs[i]:=by
 rw [List.take_succ_eq_append_getElem h,List.flatten_append]; congr 1; simp
theorem flat_le {n : Nat} : ∀ {gs : List (List Int)}, (∀ g ∈ gs, g.length ≤ n) → gs.flatten.length ≤ gs.length * n
 | [],_=>by simp
 | g :: gs,h=>by
  have:=flat_le (gs:=gs) fun x hx=>h x (by simp [hx])
  have:=h g (by simp)
  rw [List.flatten_cons,List.length_append,List.length_cons,Nat.succ_mul]; omega
theorem flat_tk {n:Nat} {gs:List (List Int)} (h:∀ g ∈ gs,g.length ≤ n) (i:Nat):(gs.take i).flatten.length ≤ gs.length * n:=by
 have h1:=flat_le (n:=n) (gs:=gs.take i) fun g hg=>h g (List.mem_of_mem_take hg)
 have h2:(gs.take i).length ≤ gs.length:=by rw [List.length_take]; omega
 exact Nat.le_trans h1 (Nat.mul_le_mul_right _ h2)
theorem s91 {n:Int} (h:0 ≤ n∧n ≤ 1000):f91 n=some []:=by
 unfold f91
 rw [decide_eq_false (show ¬ n < 0 by omega)]
 simp only [cond_false,Option.bind_some]
 have e:w64 (n - w64 (((0:Nat):Int) - (([]:List Int).length:Int)))=n:=by
  rw [show (((0:Nat):Int) - (([]:List Int).length:Int))=0 by simp,Tl (n:=0) (by omega) (by omega),Int.sub_zero,Tl (by omega) (by omega)]
 rw [e]
 by_cases h0:n > 0
 ·rw [decide_eq_true h0, cond_true]
  have:grwz 8 n=some ():=by unfold grwz; rw [if_pos ⟨by omega,by omega,by omega⟩]
  rw [this]; rfl
 ·rw [decide_eq_false h0]; rfl
theorem Yes.callL {α β:Type} {rs:List α} {k:α→Option β} {Q:β→Prop} (hu:∀ a b,Q a→Q b→a=b) (hne:rs ≠ []) (h:∀ a ∈ rs,Yes (k a) Q):Yes (Go.Proofs.Ytmpjooneiaiffaa.callL rs k) Q:=by
 obtain ⟨a,ha⟩:=List.exists_mem_of_ne_nil _ hne
 obtain ⟨b,hb,hq⟩:=h a ha
 refine ⟨b,callL_eq hne fun c hc=>?_,hq⟩
 obtain ⟨d,hd,hq'⟩:=h c hc
 rw [hd,hu d b hq' hq]
theorem s66 {gs:List (List Int)} (h:gs.length ≤ 12) (h3:∀ g ∈ gs,g.length ≤ 12):Yes (f66 gs) (fun r=>r=gs.flatten):=by
 have hb:=flat_tk h3
 unfold f66
 refine Yes.bind (Yes.mono (Q':=fun n=>n=(gs.flatten.length:Int)) ?_ fun n hn=>?_)
 ·refine Yes.upto gs.length (by omega) (fun i s => s = (((gs.take i).flatten.length : Nat) : Int)) (by simp) (fun i s k hi hI hk => ?_) (fun s k hI => ?_)
  ·subst hI
   have h1:=hb i
   have h2:=h3 _ (List.getElem_mem hi)
   have hw:w64 ((((gs.take i).flatten.length:Nat):Int) + (gs[i].length:Int))=(((gs.take (i + 1)).flatten.length:Nat):Int):=by
    rw [Tl (by omega) (by omega),Be hi,List.length_append]; omega
   refine Qr (decide_eq_true (by omega)) (Gj (((gs.take (i + 1)).flatten.length:Nat):Int) ?_ (hk _ rfl))
   rw [Wu hi,Option.bind_some,hw,decide_eq_false (by omega)]; rfl
  ·subst hI
   exact Tw (decide_eq_false (by omega)) (Yes.some (by rw [List.take_length]))
 ·subst hn
  have h1:=hb gs.length
  rw [List.take_length] at h1
  refine Gj [] (s91 (by omega)) (Yes.bind ?_)
  refine Yes.upto gs.length (by omega) (fun i s=>s=(gs.take i).flatten) (by simp) (fun i s k hi hI hk=>?_) (fun s k hI=>?_)
  ·subst hI
   have h1:=hb i
   have h2:=h3 _ (List.getElem_mem hi)
   refine Qr (decide_eq_true (by omega)) (Yes.bind (Yes.bind (Yes.idx rfl hi (Yes.bind (Yes.apnd (by omega) (by omega) (Yes.some (hk _ ?_)))))))
   rw [Be hi]
  ·subst hI
   exact Tw (decide_eq_false (by omega)) (Yes.some (Yes.some (by rw [List.take_length])))
section
variable {l:BoxLoom} {gs:List (List Int)} {V:Gd→Nat→Prop} {N:Int→Int→Int→Option (Int × Int)} {K:Nat} {first:Gd}
theorem s25 (hl : LOk l) (hg : gs.length ≤ 8) (h3 : ∀ g ∈ gs, g.length ≤ 3) (hc : ∀ g ∈ gs, g.all (btw 0 9) = true) (hN : Nx gs V N) (hf : f65 ⟨0, 0, rc l⟩ gs = some first) (hfr : first.race = rc l) (hV : V first K) (hK : K ≤ 12) (hcat : gs.flatten.length = K) :
  Yes (f25 l gs) fun r=>(Ti ≤ cs l gs K first→r=([],0,9))∧(cs l gs K first < Ti→r.2=(cs l gs K first,0)∧Opt l N K first (cs l gs K first) r.1∧∀ o,Opt l N K first (cs l gs K first) o→Lx r.1 o):=by
 have hr:Rok l first.race:=⟨l,hl,rfl,hfr⟩
 unfold f25
 refine Gj _ (s51 l hl.sml) (Yes.jn (Tw (by rw [chk0.2 hl]; rfl) (Gj false (by rw [decide_eq_false (by omega),cond_false,s64 gs _ (fun g=>decide ((g.length:Int) > 3)) (by omega) (fun g _=>by unfold f62; rfl)]; rw [Option.bind_some]; congr 1; rw [List.any_eq_false]; intro g hgm; have:=h3 g hgm; simp; omega) (Tw rfl (Gj false ?_ (Tw rfl ?_))))))
 ·rw [s64 gs _ (fun g => !g.all (btw 0 9)) (by omega) (fun g hgm => by unfold f63; rw [s52 g (by have := h3 g hgm; omega)]; rfl)]
  congr 1; rw [List.any_eq_false]; intro g hgm; rw [hc g hgm]; simp
 refine Gj _ (s56 hl) (Gj _ (s54r hl) (Gj _ hf (Yes.jn (Yes.bind ((s57 hl hN.pts K big (Sa _ (by omega)) hl rfl hfr hV Mf).mono fun r hr57=>?_)))))
 obtain ⟨r1,r2⟩:=hr57
 have r1:r.1=cs l gs K first:=r1
 have rg:0 ≤ cs l gs K first∧cs l gs K first ≤ Ti:=Bv hl hN.pts K hl rfl hfr hV
 refine Yes.cond (fun hge=>?_) (fun hge=>?_)
 ·have : Ti ≤ cs l gs K first := by rw [← r1]; exact of_decide_eq_true hge
  exact Yes.some ⟨fun _=>rfl,fun h=>by omega⟩
 have hlt:cs l gs K first < Ti:=by have:=of_decide_eq_false hge; rw [r1] at this; unfold Ti; omega
 generalize hM:cs l gs K first=M at r1 rg hlt
 rw [r1]
 refine Yes.jn (Yes.bind ((s66 (by omega) (fun g hgm=>by have:=h3 g hgm; omega)).mono fun fl hfl=>?_))
 subst hfl
 refine Yes.mono (Q':=fun r=>r.2=(M,0)∧Opt l N K first M r.1∧∀ o,Opt l N K first M o→Lx r.1 o) ?_ fun r hr=>⟨fun h=>by omega,fun _=>hr⟩
 have huniq:∀ a b:List Int × Int × Int,(a.2=(M,0)∧Opt l N K first M a.1∧∀ o,Opt l N K first M o→Lx a.1 o)→(b.2=(M,0)∧Opt l N K first M b.1∧∀ o,Opt l N K first M o→Lx b.1 o)→a=b:=fun a b ha hb=>by
  have h1:=(ha.2.2 _ hb.2.1).eq (hb.2.2 _ ha.2.1) (by rw [ha.2.1.1.len,hb.2.1.1.len])
  exact Prod.ext h1 (ha.1.trans hb.1.symm)
 refine Yes.lp (fun s=>∃ (k:Nat) (now:List (Gd × Int)),k ≤ K∧s.2.1=some now∧s.2.2.1=((K - k:Nat):Int)∧GI l gs V N K first M k s.1 now∧KOk (nbx l 0) (nbx l 1) gs V s.2.2.2) (fun s=>K - s.2.2.1.toNat) ⟨K,[(first,0)],Nat.le_refl _,rfl,by simp,GI.start hr hV hM,r2⟩ (by simp only; omega) ?_
 rintro ⟨pre,nw,i,mm⟩ kk ⟨k,now,hk,hnw,hi,hG,hm⟩ hkk
 simp only at hnw hi hG hm
 subst hnw; subst hi
 have hlen:=hG.len
 refine Yes.cond (fun hlt2=>?_) (fun hge2=>?_)
 ·have h1 := of_decide_eq_true hlt2
  obtain ⟨k,rfl⟩:∃ k',k=k' + 1:=⟨k - 1,by omega⟩
  have hsz:now.length < 18446744073709551616:=Nat.lt_of_le_of_lt hG.sz (Nat.lt_of_le_of_lt (Nat.pow_le_pow_right (by decide) (show pre.length ≤ 12 by omega)) (by decide))
  obtain ⟨rs,hrs,hne,hall⟩:=s67 hl hN (k:=k) (M:=M) (by omega) hsz (fun e he=>by
   obtain ⟨a1,a2,a3,a4⟩:=hG.v e he
   have hcv:0 ≤ cs l gs (k + 1) e.1:=by
    obtain ⟨le,b1,b2,b3⟩:=a1
    exact (Bv hl hN.pts (k + 1) b1 b2 b3 a2).1
   exact ⟨a1,a2,a3,by unfold Ti at hlt; omega⟩) hm
  refine Yes.jn (Gj now rfl (Gj rs hrs (Yes.callL huniq hne fun a ha=>?_)))
  obtain ⟨hJ,hK'⟩:=hall a ha
  obtain ⟨nx,hnx,hG'⟩:=hG.step hl hN hlt hJ
  refine Yes.bind (Yes.apnd (by simp; omega) (by simp; omega) (hkk (pre ++ [a.1],a.2.1,w64 (((K - (k + 1):Nat):Int) + 1),a.2.2) ⟨k,nx,by omega,hnx,?_,hG',hK'⟩ ?_))
  ·show w64 (((K - (k + 1) : Nat) : Int) + 1) = _
   rw [Tl (by omega) (by omega)]; omega
  ·show K - (w64 (((K - (k + 1) : Nat) : Int) + 1)).toNat < K - (((K - (k + 1) : Nat) : Int)).toNat
   rw [Tl (by omega) (by omega)]; omega
 ·have h1 := of_decide_eq_false hge2
  have hk0:k=0:=by omega
  subst hk0
  obtain ⟨f1,f2⟩:=hG.fin
  exact Yes.some ⟨rfl,f1,f2⟩
end
end Go.Proofs.Ytmpjooneiaiffaa
