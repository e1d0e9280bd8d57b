/- Values that the function owns with all that they lead to: places inside, and what is done there. No program is named here. -/
import Derived.Test.YtplaipkjhlkjgaaOv
namespace Go.Proofs.Ytplaipkjhlkjgaa
open Go.RowKit

def Co {α:Type} [GoT α] (A:Ow α) (s:A.S) (m:Nat→Nat) (w:World) (b off:Nat) (y:α):Prop:=
 ∃ carr et cs,w.heap[b]?=some (.cells carr et (0,0))∧A.ow s m w y cs∧∀ j v,cs[j]?=some v→carr[off + j]?=some v
def Ep (w w':World) (b off k:Nat):Prop:=∀ carr et,w.heap[b]?=some (.cells carr et (0,0))→∃ carr':Array Value,w'.heap[b]?=some (.cells carr' et (0,0))∧carr'.size=carr.size∧∀ j,(j < off ∨ off + k ≤ j)→carr'[j]?=carr[j]?
theorem Ep.mono {w w':World} {b o1 k1 o2 k2:Nat} (h:Ep w w' b o1 k1) (h1:o2 ≤ o1) (h2:o1 + k1 ≤ o2 + k2):Ep w w' b o2 k2:=fun carr et hh=>by
 obtain ⟨c',a1,a2,a3⟩:=h carr et hh
 exact ⟨c',a1,a2,fun j hj=>a3 j (by omega)⟩
structure Cxt {α β : Type} [GoT α] [GoT β] (A : Ow α) (b0 : Nat) (B : Ow β) (st : β → α) (b1 off : Nat) (put : B.S → A.S) : Prop where
 rd:∀ {m w y s},Co A (put s) m w b0 0 (st y)→Co B s m w b1 off y
 mem:∀ s,b1=b0 ∨ b1 ∈ A.bl (put s)
 out:∀ {s},(b0 :: A.bl (put s)).Nodup→b1 ∉ B.bl s∧(B.bl s).Nodup
 sub:∀ {s c},c ∈ B.bl s→c ∈ A.bl (put s)
 sep:∀ {s s' x},(b0 :: A.bl (put s)).Nodup→x ∈ B.bl s→x ∉ B.bl s'→x ∉ A.bl (put s')
 ok:∀ {s},A.ok (put s)→B.ok s
 okw:∀ {s s'},A.ok (put s)→B.ok s'→A.ok (put s')
 bl:∀ {s s'},(b0 :: A.bl (put s)).Nodup→(B.bl s').Nodup→(∀ c ∈ B.bl s',c ∈ B.bl s ∨ (c ≠ b0∧c ∉ A.bl (put s)))→(b0 :: A.bl (put s')).Nodup∧∀ c ∈ A.bl (put s'),c ∈ A.bl (put s) ∨ c ∈ B.bl s'
 wr:∀ {m w m' w' y s z s'},Co A (put s) m w b0 0 (st y)→(b0 :: A.bl (put s)).Nodup→Co B s' m' w' b1 off z→Ch m w m' w'→(∀ c,c=b0 ∨ c ∈ A.bl (put s)→c ≠ b1→c ∉ B.bl s→w'.heap[c]?=w.heap[c]?)→Ep w w' b1 off (GoT.k β)→Co A (put s') m' w' b0 0 (st z)
section
variable {α β γ:Type} [GoT α] [GoT β] [GoT γ] {A:Ow α} {B:Ow β} {C:Ow γ} {b0 b1 off:Nat} {st:β→α} {put:B.S→A.S}
theorem Cxt.root (A : Ow α) (b0 : Nat) : Cxt A b0 A (fun x => x) b0 0 (fun s => s) where
 rd h:=h
 mem _:=.inl rfl
 out h:=⟨(List.nodup_cons.1 h).1,(List.nodup_cons.1 h).2⟩
 sub h:=h
 sep _ _ h:=h
 ok h:=h
 okw _ h:=h
 bl h h' k:=⟨List.nodup_cons.2 ⟨fun hb=>(k b0 hb).elim (fun h1=>(List.nodup_cons.1 h).1 h1) fun h1=>h1.1 rfl,h'⟩,fun _ hc=>.inr hc⟩
 wr _ _ h _ _ _:=h
theorem Cxt.fld {d : Nat} {set : β → γ → β} {pu : B.S → C.S → B.S} (c : Cxt A b0 B st b1 off put) (f : Fl B C d set pu) (y : β) (s : B.S) : Cxt A b0 C (fun z => st (set y z)) b1 (off + d) (fun t => put (pu s t)) where
 rd {m w z t} h:=by
  obtain ⟨carr,et,cs,h1,h2,h3⟩:=c.rd h
  refine ⟨carr,et,_,h1,f.rd h2,fun j v hj=>?_⟩
  rw [List.getElem?_take] at hj
  split at hj
  ·rw [List.getElem?_drop] at hj
   rw [Nat.add_assoc]; exact h3 _ _ hj
  ·cases hj
 mem t:=c.mem _
 out h:=by
  obtain ⟨h1,h2⟩:=c.out h
  exact ⟨fun h'=>h1 (f.sub h'),f.nd h2⟩
 sub h:=c.sub (f.sub h)
 sep h h1 h2:=c.sep h (f.sub h1) (f.sep (c.out h).2 h1 h2)
 ok h:=f.ok (c.ok h)
 okw h h':=c.okw h (f.okw (c.ok h) h')
 bl {t t'} h h' k:=by
  obtain ⟨h1,h2⟩:=c.out h
  obtain ⟨q1,q2⟩:=f.bl h2 h' fun x hx=>(k x hx).imp id fun h3 h4=>h3.2 (c.sub h4)
  obtain ⟨q3,q4⟩:=c.bl h q1 fun x hx=>(q2 x hx).elim .inl fun h3=>(k x h3).elim (fun h4=>.inl (f.sub h4)) .inr
  exact ⟨q3,fun x hx=>(q4 x hx).elim .inl fun h3=>(q2 x h3).elim (fun h4=>.inl (c.sub h4)) .inr⟩
 wr {m w m' w' z t z' t'} h hnd hl k hb hk:=by
  obtain ⟨o1,o2⟩:=c.out hnd
  obtain ⟨carr,et,cs,h1,h2,h3⟩:=c.rd h
  obtain ⟨carr2,et2,cz,g1,g2,g3⟩:=hl
  obtain ⟨carr',k1,k2,k3⟩:=hk carr et h1
  rw [g1] at k1
  injection k1 with k1; injection k1 with k1 k4; subst k1; subst k4
  have e1:=f.le; have e2:=C.len g2; have e3:=B.len h2
  have hw:=f.wr h2 k (fun x hx hn=>hb x (.inr (c.sub hx)) (fun e=>o1 (e ▸ hx)) hn) o2 g2
  refine c.wr h hnd ⟨carr2,et2,_,g1,hw,fun j v hj=>?_⟩ k (fun x hx hne hn=>hb x hx hne fun h'=>hn (f.sub h')) (hk.mono (by omega) (by omega))
  rw [List.append_assoc] at hj
  have e4:(cs.take d).length=d:=by rw [List.length_take]; omega
  by_cases hj1:j < d
  ·rw [List.getElem?_append_left (by omega), List.getElem?_take, if_pos hj1] at hj
   rw [k3 (off + j) (by omega)]; exact h3 j v hj
  ·rw [List.getElem?_append_right (by omega), e4] at hj
   by_cases hj2:j < d + GoT.k γ
   ·rw [List.getElem?_append_left (by omega)] at hj
    have:=g3 _ _ hj
    rwa [Nat.add_assoc,show d + (j - d)=j by omega] at this
   ·rw [List.getElem?_append_right (by omega), List.getElem?_drop, e2, show d + GoT.k γ + (j - d - GoT.k γ) = j by omega] at hj
    rw [k3 (off + j) (by omega)]; exact h3 j v hj
theorem rows_bl {A:Ow α} {ss:List A.S} {i:Nat} {s':A.S} {c:Nat} (h:c ∈ (ss.set i s').flatMap A.bl):c ∈ ss.flatMap A.bl ∨ c ∈ A.bl s':=by
 obtain ⟨x,hx,hc⟩:=List.mem_flatMap.1 h
 rcases List.mem_or_eq_of_mem_set hx with h1 | h1
 ·exact .inl (List.mem_flatMap.2 ⟨x,h1,hc⟩)
 ·subst h1; exact .inr hc
theorem rows_nd {A : Ow α} : ∀ {ss : List A.S} {i : Nat} {s s' : A.S}, ss[i]? = some s → (ss.flatMap A.bl).Nodup → (A.bl s').Nodup → (∀ c ∈ A.bl s', c ∈ A.bl s ∨ c ∉ ss.flatMap A.bl) → ((ss.set i s').flatMap A.bl).Nodup
 | [],i,_,_,h,_,_,_=>by simp at h
 | t :: ss,0,s,s',h,hn,h',k=>by
  simp at h; subst h
  rw [List.flatMap_cons] at hn k
  obtain ⟨n1,n2,n3⟩:=List.nodup_append.1 hn
  rw [List.set_cons_zero,List.flatMap_cons]
  refine List.nodup_append.2 ⟨h',n2,fun a ha b hb e=>?_⟩
  subst e
  rcases k a ha with h1 | h1
  ·exact n3 a h1 a hb rfl
  ·exact h1 (List.mem_append_right _ hb)
 | t :: ss,i + 1,s,s',h,hn,h',k=>by
  have h:ss[i]?=some s:=by simpa using h
  rw [List.flatMap_cons] at hn k
  obtain ⟨n1,n2,n3⟩:=List.nodup_append.1 hn
  rw [List.set_cons_succ,List.flatMap_cons]
  refine List.nodup_append.2 ⟨n1,rows_nd h n2 h' fun c hc=>(k c hc).imp id fun h1 h2=>h1 (List.mem_append_right _ h2),fun a ha b hb e=>?_⟩
  subst e
  rcases rows_bl hb with h1 | h1
  ·exact n3 a ha a h1 rfl
  ·rcases k a h1 with h2 | h2
   ·exact n3 a ha a (List.mem_flatMap.2 ⟨s,List.mem_of_getElem? h,h2⟩) rfl
   ·exact h2 (List.mem_append_left _ ha)
theorem Um {A:Ow α} {ss:List A.S} {i:Nat} {s:A.S} (h:ss[i]?=some s) {c:Nat} (hc:c ∈ A.bl s):c ∈ ss.flatMap A.bl:=List.mem_flatMap.2 ⟨s,List.mem_of_getElem? h,hc⟩
theorem rows_sep {A : Ow α} : ∀ {ss : List A.S} {i : Nat} {s s' : A.S} {x : Nat}, ss[i]? = some s → (ss.flatMap A.bl).Nodup → x ∈ A.bl s → x ∉ A.bl s' → x ∉ (ss.set i s').flatMap A.bl
 | [],i,_,_,_,h,_,_,_=>by simp at h
 | t :: ss,0,s,s',x,h,hn,h1,h2=>by
  simp at h; subst h
  rw [List.flatMap_cons] at hn
  rw [List.set_cons_zero,List.flatMap_cons]
  exact fun h3=>(List.mem_append.1 h3).elim h2 fun h4=>(List.nodup_append.1 hn).2.2 _ h1 _ h4 rfl
 | t :: ss,i + 1,s,s',x,h,hn,h1,h2=>by
  have h:ss[i]?=some s:=by simpa using h
  rw [List.flatMap_cons] at hn
  rw [List.set_cons_succ,List.flatMap_cons]
  obtain ⟨n1,n2,n3⟩:=List.nodup_append.1 hn
  exact fun h3=>(List.mem_append.1 h3).elim (fun h4=>n3 _ h4 _ (List.mem_flatMap.2 ⟨s,List.mem_of_getElem? h,h1⟩) rfl) (rows_sep h n2 h1 h2)
theorem rows_nd1 {A : Ow α} : ∀ {ss : List A.S} {i : Nat} {s : A.S}, ss[i]? = some s → (ss.flatMap A.bl).Nodup → (A.bl s).Nodup
 | [],i,_,h,_=>by simp at h
 | t :: ss,0,s,h,hn=>by simp at h; subst h; rw [List.flatMap_cons] at hn; exact (List.nodup_append.1 hn).1
 | t :: ss,i + 1,s,h,hn=>by rw [List.flatMap_cons] at hn; exact rows_nd1 (by simpa using h) (List.nodup_append.1 hn).2.1
theorem mem_set_self {σ:Type} {ss:List σ} {i:Nat} {t t' x:σ} (h:x ∈ ss.set i t'):x=t' ∨ x ∈ ss.set i t:=by
 rw [List.mem_iff_getElem] at h
 obtain ⟨j,hj,rfl⟩:=h
 rw [List.getElem_set]
 split
 ·exact .inl rfl
 ·rename_i hne
  right
  rw [List.mem_iff_getElem]
  exact ⟨j,by simpa using hj,by rw [List.getElem_set,if_neg hne]⟩
theorem Cxt.idx {et : TypeId} {E : Ow γ} {st : List γ → α} {put : (Ow.list et E).S → A.S} (c : Cxt A b0 (Ow.list et E) st b1 off put) (ys : List γ) (i : Nat) (bb cc : Nat) (ss : List E.S) (hi : i < ys.length) (hss : ss.length = ys.length) :
  Cxt A b0 E (fun z=>st (ys.set i z)) bb (i * GoT.k γ) (fun t=>put (.at bb cc (ss.set i t))) where
 rd {m w z t} h:=by
  obtain ⟨carr,et',cs,h1,⟨h2,h3,h4,carr2,h5,h6,h7⟩,h8⟩:=c.rd h
  have:=h7.get (i:=i) (s:=t) (x:=z) (by rw [List.getElem?_set_self (by omega)]) (by rw [List.getElem?_set_self hi])
  refine ⟨carr2,et,_,h5,this,fun j v hj=>?_⟩
  rw [List.getElem?_take] at hj
  split at hj
  ·rw [List.getElem?_drop, List.getElem?_take] at hj
   split at hj
   ·simpa using hj
   ·cases hj
  ·cases hj
 mem t:=.inr (c.sub (s:=.at bb cc (ss.set i t)) (by show bb ∈ bb :: _; simp))
 out {t} h:=by
  obtain ⟨h1,h2⟩:=c.out h
  have h2:(bb :: (ss.set i t).flatMap E.bl).Nodup:=h2
  obtain ⟨h3,h4⟩:=List.nodup_cons.1 h2
  have hget:(ss.set i t)[i]?=some t:=List.getElem?_set_self (by omega)
  exact ⟨fun h=>h3 (Um hget h),rows_nd1 hget h4⟩
 sub {t x} h:=c.sub (s:=.at bb cc (ss.set i t)) (by show x ∈ bb :: _; exact List.mem_cons_of_mem _ (Um (List.getElem?_set_self (by omega)) h))
 sep {t t' x} h h1 h2:=by
  have h4:(bb :: (ss.set i t).flatMap E.bl).Nodup:=(c.out h).2
  obtain ⟨h5,h6⟩:=List.nodup_cons.1 h4
  have hget:(ss.set i t)[i]?=some t:=List.getElem?_set_self (by omega)
  refine c.sep (s:=.at bb cc (ss.set i t)) (s':=.at bb cc (ss.set i t')) h (by show x ∈ bb :: _; exact List.mem_cons_of_mem _ (Um hget h1)) fun h3=>?_
  rcases List.mem_cons.1 h3 with e | h3
  ·exact h5 (e ▸ Um hget h1)
  ·have := rows_sep hget h6 h1 h2
   rw [List.set_set] at this
   exact this h3
 ok {t} h:=(show ∀ s ∈ ss.set i t,E.ok s from c.ok h) t (List.mem_of_getElem? (List.getElem?_set_self (l:=ss) (i:=i) (a:=t) (by omega)))
 okw {t t'} h h':=c.okw h (show ∀ s ∈ ss.set i t',E.ok s from fun s hs=>(mem_set_self (t:=t) hs).elim (fun e=>e ▸ h') fun h1=>(show ∀ s ∈ ss.set i t,E.ok s from c.ok h) s h1)
 bl {t t'} h h' k:=by
  obtain ⟨h1,h2⟩:=c.out h
  have h2:(bb :: (ss.set i t).flatMap E.bl).Nodup:=h2
  obtain ⟨h3,h4⟩:=List.nodup_cons.1 h2
  have hget:(ss.set i t)[i]?=some t:=List.getElem?_set_self (by omega)
  have hcs:∀ x,x ∈ bb :: (ss.set i t).flatMap E.bl→x ∈ A.bl (put (.at bb cc (ss.set i t))):=fun x hx=>c.sub (s:=.at bb cc (ss.set i t)) hx
  have q1:=rows_nd hget h4 h' fun x hx=>(k x hx).imp id fun h5 h6=>h5.2 (hcs x (List.mem_cons_of_mem _ h6))
  rw [List.set_set] at q1
  have q2:∀ x ∈ (ss.set i t').flatMap E.bl,x ∈ (ss.set i t).flatMap E.bl ∨ x ∈ E.bl t':=fun x hx=>by
   have:x ∈ ((ss.set i t).set i t').flatMap E.bl:=by rw [List.set_set]; exact hx
   exact rows_bl this
  have q3:(bb :: (ss.set i t').flatMap E.bl).Nodup:=List.nodup_cons.2 ⟨fun hx=>by
   rcases q2 bb hx with h5 | h5
   ·exact h3 h5
   ·rcases k bb h5 with h6 | h6
    ·exact h3 (Um hget h6)
    ·exact h6.2 (hcs bb (by simp)),q1⟩
  obtain ⟨q4,q5⟩:=c.bl (s':=.at bb cc (ss.set i t')) h q3 fun x hx=>by
   rcases List.mem_cons.1 hx with rfl | hx
   ·exact .inl (by show x ∈ x :: _; simp)
   ·rcases q2 x hx with h5 | h5
    ·exact .inl (by show x ∈ bb :: _; exact List.mem_cons_of_mem _ h5)
    ·rcases k x h5 with h6 | h6
     ·exact .inl (by show x ∈ bb :: _; exact List.mem_cons_of_mem _ (Um hget h6))
     ·exact .inr h6
  refine ⟨q4,fun x hx=>(q5 x hx).elim .inl fun h5=>?_⟩
  rcases List.mem_cons.1 h5 with rfl | h5
  ·exact .inl (hcs x (by simp))
  ·exact (q2 x h5).elim (fun h6=>.inl (hcs x (List.mem_cons_of_mem _ h6))) .inr
 wr {m w m' w' z t z' t'} h hnd hl k hb hk:=by
  obtain ⟨o1,o2⟩:=c.out hnd
  have o2:(bb :: (ss.set i t).flatMap E.bl).Nodup:=o2
  have o1:b1 ∉ bb :: (ss.set i t).flatMap E.bl:=o1
  obtain ⟨o3,o4⟩:=List.nodup_cons.1 o2
  have hget:(ss.set i t)[i]?=some t:=List.getElem?_set_self (by omega)
  have hcs:∀ x,x ∈ bb :: (ss.set i t).flatMap E.bl→x ∈ A.bl (put (.at bb cc (ss.set i t))):=fun x hx=>c.sub (s:=.at bb cc (ss.set i t)) hx
  obtain ⟨carr,et',cs,h1,⟨h2,h3,h4,carr2,h5,h6,h7⟩,h8⟩:=c.rd h
  have hb1:b1 ≠ bb:=fun e=>o1 (by rw [e]; simp)
  have hb1n:b1 ∉ E.bl t:=fun h'=>o1 (List.mem_cons_of_mem _ (Um hget h'))
  have hh1:w'.heap[b1]?=w.heap[b1]?:=hb b1 (c.mem _) hb1 hb1n
  obtain ⟨carr',k1,k2,k3⟩:=hk carr2 et h5
  obtain ⟨carr3,et3,cz,g1,g2,g3⟩:=hl
  rw [g1] at k1
  injection k1 with k1; injection k1 with k1 k4; subst k1; subst k4
  have hset:=h7.set k hget (fun x hx hn=>hb x (.inr (hcs x (List.mem_cons_of_mem _ hx))) (fun e=>o3 (e ▸ hx)) hn) o4 g2
  rw [List.set_set,List.set_set] at hset
  have hl1:(ys.set i z).length=ys.length:=List.length_set
  have hl2:(ys.set i z').length=ys.length:=List.length_set
  rw [hl1] at h2 h3 hset
  have hkk:i * GoT.k γ + GoT.k γ ≤ ys.length * GoT.k γ:=by
   have:(i + 1) * GoT.k γ ≤ ys.length * GoT.k γ:=Nat.mul_le_mul_right _ hi
   rw [Nat.add_mul,Nat.one_mul] at this; exact this
  have hkc:ys.length * GoT.k γ ≤ carr2.size:=by rw [h6]; exact Nat.mul_le_mul_right _ h3
  have hez:=E.len g2
  refine c.wr h hnd (s':=.at bb cc (ss.set i t')) ⟨carr,et',cs,hh1.trans h1,⟨by rw [hl2]; exact h2,by rw [hl2]; exact h3,h4,carr3,g1,k2.trans h6,?_⟩,h8⟩ k ?_ ?_
  ·rw [hl2]
   have:(carr2.toList.take (ys.length * GoT.k γ)).take (i * GoT.k γ) ++ cz ++ (carr2.toList.take (ys.length * GoT.k γ)).drop (i * GoT.k γ + GoT.k γ)=carr3.toList.take (ys.length * GoT.k γ):=by
    rw [List.take_take,Nat.min_eq_left (by omega)]
    have e1:(carr2.toList.take (i * GoT.k γ)).length=i * GoT.k γ:=by rw [List.length_take,Array.length_toList]; omega
    apply List.ext_getElem?
    intro j
    rw [List.append_assoc,List.getElem?_take]
    by_cases hj:j < ys.length * GoT.k γ
    ·rw [if_pos hj]
     by_cases hj1:j < i * GoT.k γ
     ·rw [List.getElem?_append_left (by omega), List.getElem?_take, if_pos hj1]
      have:=k3 j (by omega)
      simpa using this.symm
     ·rw [List.getElem?_append_right (by omega), e1]
      by_cases hj2:j < i * GoT.k γ + GoT.k γ
      ·rw [List.getElem?_append_left (by omega)]
       have hc:=List.getElem?_eq_getElem (l:=cz) (i:=j - i * GoT.k γ) (by omega)
       have:=g3 _ _ hc
       rw [show i * GoT.k γ + (j - i * GoT.k γ)=j by omega] at this
       rw [hc]; simpa using this.symm
      ·rw [List.getElem?_append_right (by omega), List.getElem?_drop, List.getElem?_take, hez, show i * GoT.k γ + GoT.k γ + (j - i * GoT.k γ - GoT.k γ) = j by omega, if_pos hj]
       have:=k3 j (by omega)
       simpa using this.symm
    ·rw [if_neg hj, List.getElem?_eq_none]
     have e9:carr2.toList.length=carr2.size:=Array.length_toList
     rw [List.length_append,List.length_append,e1,List.length_drop,List.length_take,e9,hez]; omega
   rw [← this]; exact hset
  ·intro x hx hne hn
   have hn:x ∉ bb :: (ss.set i t).flatMap E.bl:=hn
   exact hb x hx (fun e=>hn (by rw [e]; simp)) fun h'=>hn (List.mem_cons_of_mem _ (Um hget h'))
  ·intro ca ea hca
   rw [h1] at hca
   injection hca with hca; injection hca with q1 q2; subst q1; subst q2
   exact ⟨carr,hh1.trans h1,rfl,fun _ _=>rfl⟩
end
end Go.Proofs.Ytplaipkjhlkjgaa
/- Values that the function owns with all that they lead to: laws for operations. No program is named here. -/
namespace Go.Proofs.Ytplaipkjhlkjgaa
open Go.RowKit

def OV {α:Type} [GoT α] (A:Ow α) (i:Nat) (g:Gh) (w:World) (t:TypeId) (x:α) (b:Nat) (s:A.S):Prop:=
 ∃ cs,g.o b=i∧g.m b=0∧w.heap[b]?=some (.cells cs t (0,0))∧A.ow s g.m w x cs.toList∧(b :: A.bl s).Nodup∧∀ c ∈ A.bl s,g.o c=i∧g.m c=0
def OW {α:Type} [GoT α] (A:Ow α) (i:Nat) (g:Gh) (w:World) (x:α) (s:A.S) (v:Value):Prop:=
 ∃ cs,v=toV (GoT.agg α) cs∧A.ow s g.m w x cs∧(A.bl s).Nodup∧∀ c ∈ A.bl s,g.o c=i∧g.m c=0
def OWx {α:Type} [GoT α] (A:Ow α) (i:Nat) (g:Gh) (w:World) (x:α) (v:Value):Prop:=∃ s,OW A i g w x s v∧A.ok s
section
variable {α β γ:Type} [GoT α] [GoT β] [GoT γ] {A:Ow α} {B:Ow β} {i j b:Nat} {g g':Gh} {w w':World} {t:TypeId} {x:α} {s:A.S} {v:Value}
theorem OV.ext (h:OV A i g w t x b s) (k:Ext g w g' w'):OV A i g' w' t x b s:=by
 obtain ⟨cs,h1,h2,h3,h4,h5,h6⟩:=h
 have hb:=Gg h3
 exact ⟨cs,(k.o b hb).trans h1,(k.m b hb).trans h2,(k.below.block b hb).trans h3,A.mono k.ch (fun c hc=>k.below.block c (A.lt h4 c hc)) h4,h5,fun c hc=>⟨(k.o c (A.lt h4 c hc)).trans (h6 c hc).1,(k.m c (A.lt h4 c hc)).trans (h6 c hc).2⟩⟩
theorem OV.stp (h:OV A i g w t x b s) (k:Stp j g w g' w') (hne:Nat.beq i j=false):OV A i g' w' t x b s:=by
 have hij:i ≠ j:=fun e=>by rw [e] at hne; simp at hne
 obtain ⟨cs,h1,h2,h3,h4,h5,h6⟩:=h
 have hb:=Gg h3
 have hn:∀ c,g.o c=i→g.o c ≠ j:=fun c e=>by rw [e]; exact hij
 exact ⟨cs,(k.o b hb (hn b h1)).trans h1,(k.m b hb (hn b h1)).trans h2,(k.block b hb (hn b h1)).trans h3,A.mono k.ch (fun c hc=>k.block c (A.lt h4 c hc) (hn c (h6 c hc).1)) h4,h5,fun c hc=>⟨(k.o c (A.lt h4 c hc) (hn c (h6 c hc).1)).trans (h6 c hc).1,(k.m c (A.lt h4 c hc) (hn c (h6 c hc).1)).trans (h6 c hc).2⟩⟩
theorem OW.ext (h:OW A i g w x s v) (k:Ext g w g' w'):OW A i g' w' x s v:=by
 obtain ⟨cs,h1,h4,h5,h6⟩:=h
 exact ⟨cs,h1,A.mono k.ch (fun c hc=>k.below.block c (A.lt h4 c hc)) h4,h5,fun c hc=>⟨(k.o c (A.lt h4 c hc)).trans (h6 c hc).1,(k.m c (A.lt h4 c hc)).trans (h6 c hc).2⟩⟩
theorem OW.stp (h:OW A i g w x s v) (k:Stp j g w g' w') (hne:Nat.beq i j=false):OW A i g' w' x s v:=by
 have hij:i ≠ j:=fun e=>by rw [e] at hne; simp at hne
 obtain ⟨cs,h1,h4,h5,h6⟩:=h
 have hn:∀ c,g.o c=i→g.o c ≠ j:=fun c e=>by rw [e]; exact hij
 exact ⟨cs,h1,A.mono k.ch (fun c hc=>k.block c (A.lt h4 c hc) (hn c (h6 c hc).1)) h4,h5,fun c hc=>⟨(k.o c (A.lt h4 c hc) (hn c (h6 c hc).1)).trans (h6 c hc).1,(k.m c (A.lt h4 c hc) (hn c (h6 c hc).1)).trans (h6 c hc).2⟩⟩
theorem OWx.ext (h:OWx A i g w x v) (k:Ext g w g' w'):OWx A i g' w' x v:=let ⟨s,h1,h2⟩:=h; ⟨s,h1.ext k,h2⟩
theorem OWx.stp (h:OWx A i g w x v) (k:Stp j g w g' w') (hne:Nat.beq i j=false:=by rfl):OWx A i g' w' x v:=let ⟨s,h1,h2⟩:=h; ⟨s,h1.stp k hne,h2⟩
theorem OV.loc (h:OV A i g w t x b s):Co A s g.m w b 0 x:=by
 obtain ⟨cs,h1,h2,h3,h4,h5,h6⟩:=h
 exact ⟨cs,t,_,h3,h4,fun j v hj=>by rw [Nat.zero_add]; simpa using hj⟩
theorem OW.cells (h:OW A i g w x s v):A.ow s g.m w x v.cells.toList:=by
 obtain ⟨cs,rfl,h4,_⟩:=h
 cases ha:GoT.agg α with
 | true=>simpa [toV,Value.cells] using h4
 | false=>
  have hk:=A.len h4
  rw [GoT.k1 ha] at hk
  match cs,hk with
  | [c],_=>
   have h0:=A.one h4 c (by simp)
   simp only [toV,cond_false,List.headD_cons,Hc h0]
   exact h4
/-! ### Published, lent -/
theorem blkN_all (w:World) (m:Nat→Nat) (b:Nat):Ak w b ≤ allM w m b:=by
 unfold Ak
 cases h:w.heap[b]? with
 | none=>exact Nat.zero_le _
 | some o=>
  cases o with
  | cells cs t fr=>exact allM_cells h
  | _=>exact Nat.zero_le _
def markT (i:Nat) (g:Gh) (w:World):Gh:={ m:=fun b=>if g.o b=i then (if g.m b < Ak w b then Ak w b else g.m b) else g.m b,o:=g.o }
theorem markT_le (i:Nat) (g:Gh) (w:World) (b:Nat):g.m b ≤ (markT i g w).m b:=by
 show g.m b ≤ if _ then (if _ then _ else _) else _
 split
 ·split <;> omega
 ·exact Nat.le_refl _
theorem markT_stp (i:Nat) (g:Gh) (w:World):Stp i g w (markT i g w) w:=
 ⟨rfl,rfl,rfl,ch_up (markT_le i g w),fun _ _ _=>rfl,fun b _ hn=>by show (if _ then _ else _)=_; rw [if_neg hn],fun _ _ _=>rfl⟩
theorem markT_blk {c:Nat} (h:g.o c=i):Ak w c ≤ (markT i g w).m c:=by
 show _ ≤ if _ then (if _ then _ else _) else _
 rw [if_pos h]; split <;> omega
theorem OW.pub (h:OW A i g w x s v) (hok:A.ok s):∃ g',Stp i g w g' w∧RV g'.m w x v:=by
 obtain ⟨cs,h1,h4,h5,h6⟩:=h
 exact ⟨_,markT_stp i g w,cs,A.pub h4 hok (markT_le i g w) fun c hc=>markT_blk (h6 c hc).1,h1⟩
/-! ### Tags change -/
def retB (bs:List Nat) (i:Nat) (g:Gh):Gh:={ m:=g.m,o:=fun c=>if c ∈ bs then i else g.o c }
theorem Ob {bs:List Nat} (h:∀ c ∈ bs,g.o c=j) (i:Nat):Stp j g w (retB bs i g) w:=
 ⟨rfl,rfl,rfl,Ch.refl _ _,fun _ _ _=>rfl,fun _ _ _=>rfl,fun c _ hn=>by show (if c ∈ bs then i else g.o c)=g.o c; rw [if_neg fun hc=>hn (h c hc)]⟩
theorem OW.retag (h:OW A j g w x s v) (i:Nat):∃ g',Stp j g w g' w∧g'.m=g.m∧OW A i g' w x s v:=by
 obtain ⟨cs,h1,h4,h5,h6⟩:=h
 exact ⟨retB (A.bl s) i g,Ob (fun c hc=>(h6 c hc).1) i,rfl,cs,h1,h4,h5,fun c hc=>⟨if_pos hc,(h6 c hc).2⟩⟩
theorem OW.hand {g0:Gh} {w0:World} {k:Nat} (hfr:Fr g0 w0 g w) (h:OW A (k + 1) g w x s v) (hok:A.ok s):∃ g',Ext g0 w0 g' w∧g'.m=g.m∧OWx A i g' w x v:=by
 obtain ⟨cs,h1,h4,h5,h6⟩:=h
 have hnew:∀ c ∈ A.bl s,¬ c < w0.heap.size:=fun c hc hlt=>by have:=hfr.o c hlt; have:=(h6 c hc).1; omega
 refine ⟨{ m:=g.m,o:=fun c=>if c < w0.heap.size then g0.o c else if c ∈ A.bl s then i else 0 },⟨hfr.below,hfr.m,fun c hc=>by simp [hc]⟩,rfl,s,⟨cs,h1,h4,h5,fun c hc=>⟨?_,(h6 c hc).2⟩⟩,hok⟩
 show (if _ then _ else _)=_
 rw [if_neg (hnew c hc),if_pos hc]
/-! ### Slices -/
def hdrV {σ:Type} (s:Sl σ) (n:Nat):Value:=match s with | .at b c _=>.slice (some ⟨b,0,none⟩) n c | .nil=>.slice none 0 0 | _=>undef
theorem hdr_at {σ:Type} {s:Sl σ} {b c:Nat} {ss:List σ} (h:s=.at b c ss) (n:Nat):hdrV s n=.slice (some ⟨b,0,none⟩) n c:=by subst h; rfl
theorem Eb {m : Nat → Nat} {w : World} : ∀ {xs : List α} {cs : List Value}, Tq m w xs cs → Rows (Ow.sh α) m w (List.replicate xs.length ()) xs cs
 | [],_,h=>⟨rfl,h⟩
 | _ :: _,_,⟨c1,c2,h2,h3,h4⟩=>by subst h2; exact ⟨_,_,c1,c2,rfl,rfl,h3,Eb h4⟩
end
end Go.Proofs.Ytplaipkjhlkjgaa
