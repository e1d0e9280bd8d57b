/- BoxFewests. -/
import Derived.Test.YtmpjooneiaiffaaLawGA
import Derived.Test.YtmpjooneiaiffaaLawGB
set_option maxRecDepth 8000
namespace Go.Proofs.Ytmpjooneiaiffaa
open Go.RowKit
open Classical

theorem s16 (xs:List Int) (h:xs.length ≤ 1000):f16 xs=some xs:=by
 refine Yes.eq ?_
 unfold f16
 exact Yes.bind (Yes.apnd (by simp; omega) (by simp; omega) (Yes.some (by simp)))
theorem s52 (xs:List Int) (h:xs.length ≤ 1000):f52 xs=some (xs.all (btw 0 9)):=by unfold f52; rw [s87 _ _ _ (by omega)]; rfl
theorem s21 (xs:List Int) (h:xs.length ≤ 1000):f21 xs=some (xs.all (btw 0 9)):=by
 refine Yes.eq ?_
 unfold f21
 refine Yes.jn (Yes.upto0 xs.length (by omega) (fun i=>(xs.take i).all (btw 0 9)=true) (by simp) (fun i k hi hI hk=>?_) (fun k hI=>?_))
 ·refine Yes.jn (Qw (by simp; omega) (Yes.jn (Gp _ (qidx hi) (Gp _ (s59 _ _ _) (Yes.cond (fun hc => Yes.some ?_) (fun hc => hk ?_))))))
  ·have hb : btw 0 9 xs[i] = false := by simpa using hc
   refine Eq.symm ?_
   rw [Bool.eq_false_iff]
   intro hall
   have:=List.all_eq_true.1 hall _ (List.getElem_mem hi)
   rw [hb] at this; cases this
  ·have hb : btw 0 9 xs[i] = true := by simpa using hc
   rw [take_succ hi,List.all_append,hI]; simp [hb]
 ·refine Yes.jn (Qi (by simp) (Yes.some ?_))
  rw [List.take_length] at hI
  exact hI.symm
theorem kok_nil {B0 B1:Nat} {gs:List (List Int)} {V:Gd→Nat→Prop}:KOk B0 B1 gs V []:=⟨fun h=>by cases h⟩
end Go.Proofs.Ytmpjooneiaiffaa
/- Plain laws: the orders that Groups keeps, round after round. -/
set_option maxRecDepth 8000
namespace Go.Proofs.Ytmpjooneiaiffaa
open Go.RowKit
open Classical

theorem nodup_sub {α : Type} : ∀ {xs ys : List α}, xs.Nodup → (∀ x ∈ xs, x ∈ ys) → xs.length ≤ ys.length
 | [],_,_,_=>Nat.zero_le _
 | x :: xs,ys,hn,hs=>by
  rw [List.nodup_cons] at hn
  obtain ⟨a,b,rfl⟩:=List.append_of_mem (hs x (by simp))
  have:=nodup_sub (xs:=xs) (ys:=a ++ b) hn.2 fun y hy=>by
   have h1:=hs y (by simp [hy])
   have h2:y ≠ x:=fun e=>hn.1 (e ▸ hy)
   rcases List.mem_append.1 h1 with h | h
   ·exact List.mem_append_left _ h
   ·rcases List.mem_cons.1 h with h | h
    ·exact absurd h h2
    ·exact List.mem_append_right _ h
  simp at this ⊢; omega
def Lx : List Int → List Int → Prop
 | [],_=>True
 | _ :: _,[]=>False
 | x :: a,y :: b=>x < y ∨ (x=y∧Lx a b)
theorem Lx.snoc {c : Int} : ∀ {pre o : List Int}, Lx pre o → pre.length < o.length → (∀ c' o', o = pre ++ c' :: o' → c ≤ c') → Lx (pre ++ [c]) o
 | [],o,_,h,hc=>by
  cases o with
  | nil=>simp at h
  | cons y b=>
   have:=hc y b rfl
   show c < y ∨ (c=y∧True)
   by_cases e:c=y
   ·exact .inr ⟨e,trivial⟩
   ·exact .inl (by omega)
 | x :: a,o,hx,h,hc=>by
  cases o with
  | nil=>exact hx.elim
  | cons y b=>
   rcases hx with hx | ⟨rfl,hx⟩
   ·exact .inl hx
   ·exact .inr ⟨rfl,Lx.snoc hx (by simpa using h) fun c' o' e=>hc c' o' (by rw [e]; rfl)⟩
theorem Lx.eq : ∀ {a b : List Int}, Lx a b → Lx b a → a.length = b.length → a = b
 | [],[],_,_,_=>rfl
 | [],_ :: _,_,_,h=>by simp at h
 | _ :: _,[],_,_,h=>by simp at h
 | x :: a,y :: b,h1,h2,h=>by
  rcases h1 with h1 | ⟨rfl,h1⟩
  ·rcases h2 with h2 | ⟨rfl,_⟩ <;> omega
  ·rcases h2 with h2 | ⟨_, h2⟩
   ·omega
   ·rw [Lx.eq h1 h2 (by simpa using h)]
theorem OrdN.len {N : Int → Int → Int → Option (Int × Int)} : ∀ {k : Nat} {g d : Int} {o : List Int}, OrdN N k g d o → o.length = k
 | 0,_,_,_,h=>by rw [show _=[] from h]; rfl
 | k + 1,_,_,_,⟨c,o',g',d',h,_,h2⟩=>by rw [h,List.length_cons,OrdN.len h2]
section
variable {l:BoxLoom} {gs:List (List Int)} {V:Gd→Nat→Prop} {N:Int→Int→Int→Option (Int × Int)} {K:Nat} {first:Gd} {M:Int}
def Opt (l:BoxLoom) (N:Int→Int→Int→Option (Int × Int)) (K:Nat) (first:Gd) (M:Int) (o:List Int):Prop:=OrdN N K first.group first.done o∧cR (nbx l 0) (nbx l 1) o first.race=M
structure GI (l : BoxLoom) (gs : List (List Int)) (V : Gd → Nat → Prop) (N : Int → Int → Int → Option (Int × Int)) (K : Nat) (first : Gd) (M : Int) (k : Nat) (pre : List Int) (now : List (Gd × Int)) : Prop where
 ne:now ≠ []
 v:∀ e ∈ now,Rok l e.1.race∧V e.1 k∧0 ≤ e.2∧e.2 + cs l gs k e.1=M
 b:∀ o,(∃ e ∈ now,OrdN N k e.1.group e.1.done o∧e.2 + cR (nbx l 0) (nbx l 1) o e.1.race=M) ↔ Opt l N K first M (pre ++ o)
 c:∀ o,Opt l N K first M o→Lx pre o
 len:pre.length + k=K
 sz:now.length ≤ 16 ^ pre.length
theorem GI.start (hr : Rok l first.race) (hv : V first K) (hM : cs l gs K first = M) : GI l gs V N K first M K [] [(first, 0)] where
 ne:=by simp
 v:=fun e he=>by rw [List.mem_singleton.1 he]; exact ⟨hr,hv,Int.le_refl _,by rw [Int.zero_add]; exact hM⟩
 b:=fun o=>by simp [Opt]
 c:=fun o _=>trivial
 len:=by simp
 sz:=by simp
theorem GI.elig (hN : Nx gs V N) (hM : M < Tx) {k : Nat} {pre : List Int} {now : List (Gd × Int)} (h : GI l gs V N K first M (k + 1) pre now) {c : Int} {o : List Int} (ho : Opt l N K first M (pre ++ c :: o)) :
  ∃ to v,ElN l gs N k M now c to v∧OrdN N k to.group to.done o∧v + cR (nbx l 0) (nbx l 1) o to.race=M:=by
 obtain ⟨e,he,⟨c',o',g',d',heq,hn,ho'⟩,hc⟩:=(h.b _).2 ho
 cases heq
 obtain ⟨hr,hv,h0,hs⟩:=h.v e he
 rw [show cR (nbx l 0) (nbx l 1) (c :: o) e.1.race=(pkR (nbx l 0) (nbx l 1) e.1.race).foldl (mnF (cRF c (cR (nbx l 0) (nbx l 1) o))) Tx from rfl] at hc
 rcases (mn_le (φ:=cRF c (cR (nbx l 0) (nbx l 1) o)) (t:=M - e.2) (pkR (nbx l 0) (nbx l 1) e.1.race) Tx).1 (by omega) with hh | ⟨s,hs',u,hu,hu2⟩
 ·omega
 unfold cRF at hu
 split at hu
 ·rename_i hcol
  subst hcol
  cases hu
  obtain ⟨r1,r2,_⟩:=hr.pk hs'
  have hv':=hN.to (s:=s.2) hv hn
  have e1:=cst_le_cR (l:=l) hN (pt:=⟨g',d',s.2.next⟩) r1 hv' ho'
  have e2:=cst_step (l:=l) hN hv hs' hn
  have e3:e.2 + s.2.moves + cs l gs k ⟨g',d',s.2.next⟩=M:=by
   have a1:cs l gs k ⟨g',d',s.2.next⟩ ≤ cR (nbx l 0) (nbx l 1) o s.2.next:=e1
   have a2:cs l gs (k + 1) e.1 ≤ s.2.moves + cs l gs k ⟨g',d',s.2.next⟩:=e2
   omega
  refine ⟨⟨g',d',s.2.next⟩,e.2 + s.2.moves,⟨e,he,s,hs',rfl,hn,rfl,rfl,e3⟩,ho',?_⟩
  have a1:cs l gs k ⟨g',d',s.2.next⟩ ≤ cR (nbx l 0) (nbx l 1) o s.2.next:=e1
  show e.2 + s.2.moves + cR (nbx l 0) (nbx l 1) o s.2.next=M
  omega
 ·cases hu
theorem pkR_len (hl:LOk l) (r:Gv):(pkR (nbx l 0) (nbx l 1) r).length ≤ 16:=Nat.le_trans (List.length_filterMap_le _ _) (allP_len hl)
theorem flat_len {α β : Type} {f : α → List β} {n : Nat} (h : ∀ x, (f x).length ≤ n) : ∀ xs : List α, (xs.flatMap f).length ≤ xs.length * n
 | []=>by simp
 | x :: xs=>by
  have:=flat_len h xs
  have:=h x
  rw [List.flatMap_cons,List.length_append,List.length_cons,Nat.succ_mul]; omega
theorem GI.step (hl : LOk l) (hN : Nx gs V N) (hM : M < Tx) {k : Nat} {pre : List Int} {now : List (Gd × Int)} (h : GI l gs V N K first M (k + 1) pre now) {col : Int} {nxt : Option (List (Gd × Int))} (hJ : J (ElN l gs N k M now) col nxt) :
  ∃ nx,nxt=some nx∧GI l gs V N K first M k (pre ++ [col]) nx:=by
 have hex:∃ c to v,ElN l gs N k M now c to v:=by
  obtain ⟨e,he⟩:=List.exists_mem_of_ne_nil _ h.ne
  obtain ⟨hr,hv,h0,hs⟩:=h.v e he
  rcases (cst_le hN (k + 1) (t:=cs l gs (k + 1) e.1) hr hv).1 (Int.le_refl _) with hh | ⟨o,ho,hh⟩
  ·omega
  ·have h2 := cst_le_cR (l := l) hN hr hv ho
   have h3:cs l gs (k + 1) e.1 ≤ cR (nbx l 0) (nbx l 1) o e.1.race:=h2
   have hO:=(h.b o).1 ⟨e,he,ho,by omega⟩
   obtain ⟨c,o',_,_,rfl,_,_⟩:=ho
   obtain ⟨to,v,h4,_⟩:=h.elig hN hM hO
   exact ⟨c,to,v,h4⟩
 rcases hJ with ⟨_,_,hno⟩ | ⟨nx,hnx,hc9,⟨t0,v0,h0⟩,hmin,his⟩
 ·obtain ⟨c,to,v,hh⟩:=hex; exact absurd hh (hno c to v)
 refine ⟨nx,hnx,?_,?_,?_,?_,?_,?_⟩
 ·intro hn
  have:=(his.2 t0 v0).2 h0
  rw [hn] at this; cases this
 ·rintro ⟨to, v⟩ he
  obtain ⟨e,he',s,hs,c1,c2,c3,c4,c5⟩:=(his.2 to v).1 he
  obtain ⟨hr,hv,hb,_⟩:=h.v e he'
  obtain ⟨r1,r2,_⟩:=hr.pk hs
  have hv':=hN.to (s:=s.2) hv c2
  refine ⟨by show Rok l to.race; rw [c3]; exact r1,?_,by show 0 ≤ v; omega,c5⟩
  show V to k
  obtain ⟨tg,td,tr⟩:=to
  simp only at c3 hv'
  rw [c3]; exact hv'
 ·intro o
  have hassoc:pre ++ [col] ++ o=pre ++ col :: o:=by simp
  rw [hassoc]
  constructor
  ·rintro ⟨⟨to, v⟩, he, ho, hc⟩
   obtain ⟨e,he',s,hs,c1,c2,c3,c4,c5⟩:=(his.2 to v).1 he
   obtain ⟨hr,hv,hb,hsum⟩:=h.v e he'
   simp only at ho hc
   have hO:OrdN N (k + 1) e.1.group e.1.done (col :: o):=⟨col,o,to.group,to.done,rfl,by rw [c1]; exact c2,ho⟩
   refine (h.b (col :: o)).1 ⟨e,he',hO,?_⟩
   have h2:cs l gs (k + 1) e.1 ≤ cR (nbx l 0) (nbx l 1) (col :: o) e.1.race:=cst_le_cR (l:=l) hN hr hv hO
   have h3:cR (nbx l 0) (nbx l 1) (col :: o) e.1.race ≤ s.2.moves + cR (nbx l 0) (nbx l 1) o s.2.next:=by
    rw [cR,mn_le]
    exact .inr ⟨s,hs,_,by unfold cRF; rw [if_pos c1.symm],Int.le_refl _⟩
   rw [c3] at hc
   omega
  ·intro hO
   obtain ⟨to,v,h1,h2,h3⟩:=h.elig hN hM hO
   exact ⟨(to,v),(his.2 to v).2 h1,h2,h3⟩
 ·intro o hO
  have hlen:=hO.1.len
  refine (h.c o hO).snoc (by have:=h.len; omega) fun c' o' e=>?_
  subst e
  obtain ⟨to,v,h1,_⟩:=h.elig hN hM hO
  exact hmin _ _ _ h1
 ·have:=h.len; simp; omega
 ·have hnd : nx.Nodup := (List.pairwise_map.1 his.1).imp fun h e => h (by rw [e])
  have h1:=nodup_sub (ys:=now.flatMap fun e=>(pkR (nbx l 0) (nbx l 1) e.1.race).map fun s=>((⟨((N e.1.group e.1.done s.2.colour).getD (0,0)).1,((N e.1.group e.1.done s.2.colour).getD (0,0)).2,s.2.next⟩:Gd),e.2 + s.2.moves)) hnd fun x hx=>by
   obtain ⟨to,v⟩:=x
   obtain ⟨e,he',s,hs,c1,c2,c3,c4,c5⟩:=(his.2 to v).1 hx
   refine List.mem_flatMap.2 ⟨e,he',List.mem_map.2 ⟨s,hs,?_⟩⟩
   rw [c2,← c4,← c3]; rfl
  have h2:=flat_len (f:=fun e:Gd × Int=>(pkR (nbx l 0) (nbx l 1) e.1.race).map fun s=>((⟨((N e.1.group e.1.done s.2.colour).getD (0,0)).1,((N e.1.group e.1.done s.2.colour).getD (0,0)).2,s.2.next⟩:Gd),e.2 + s.2.moves)) (n:=16) (fun e=>by rw [List.length_map]; exact pkR_len hl _) now
  have h3:=h.sz
  rw [List.length_append,List.length_singleton,Nat.pow_succ]
  exact Nat.le_trans h1 (Nat.le_trans h2 (Nat.mul_le_mul_right _ h3))
theorem GI.fin {pre:List Int} {now:List (Gd × Int)} (h:GI l gs V N K first M 0 pre now):Opt l N K first M pre∧∀ o,Opt l N K first M o→Lx pre o:=by
 obtain ⟨e,he⟩:=List.exists_mem_of_ne_nil _ h.ne
 obtain ⟨_,_,_,hs⟩:=h.v e he
 have:=(h.b []).1 ⟨e,he,rfl,by rw [cR]; exact hs⟩
 rw [List.append_nil] at this
 exact ⟨this,h.c⟩
end
end Go.Proofs.Ytmpjooneiaiffaa
