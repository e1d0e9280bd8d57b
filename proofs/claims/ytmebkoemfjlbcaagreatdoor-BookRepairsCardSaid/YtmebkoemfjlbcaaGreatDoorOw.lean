/- Values that the function owns with all that they lead to: places inside, and what is done there. No program is named here. -/
import Derived.Test.YtmebkoemfjlbcaaGreatDoorOv
namespace Go.Proofs.YtmebkoemfjlbcaaGreatDoor
open Go.RowKit

def LocR {α:Type} [GoT α] (A:Ow α) (s:A.S) (m:Nat→Nat) (w:World) (b off:Nat) (y:α):Prop:=
 ∃ carr et cs,w.heap[b]?=some (.cells carr et (0,0))∧A.ow s m w y cs∧∀ j v,cs[j]?=some v→carr[off + j]?=some v
def Keeps (w w':World) (b off k:Nat):Prop:=∀ carr et,w.heap[b]?=some (.cells carr et (0,0))→∃ carr':Array Value,w'.heap[b]?=some (.cells carr' et (0,0))∧carr'.size=carr.size∧∀ j,(j < off ∨ off + k ≤ j)→carr'[j]?=carr[j]?
theorem Keeps.mono {w w':World} {b o1 k1 o2 k2:Nat} (h:Keeps w w' b o1 k1) (h1:o2 ≤ o1) (h2:o1 + k1 ≤ o2 + k2):Keeps w w' b o2 k2:=fun carr et hh=>by
 obtain ⟨c',a1,a2,a3⟩:=h carr et hh
 exact ⟨c',a1,a2,fun j hj=>a3 j (by omega)⟩
structure Cxt {α β : Type} [GoT α] [GoT β] (A : Ow α) (b0 : Nat) (B : Ow β) (st : β → α) (b1 off : Nat) (put : B.S → A.S) : Prop where
 rd:∀ {m w y s},LocR A (put s) m w b0 0 (st y)→LocR B s m w b1 off y
 mem:∀ s,b1=b0 ∨ b1 ∈ A.bl (put s)
 out:∀ {s},(b0 :: A.bl (put s)).Nodup→b1 ∉ B.bl s∧(B.bl s).Nodup
 sub:∀ {s c},c ∈ B.bl s→c ∈ A.bl (put s)
 sep:∀ {s s' x},(b0 :: A.bl (put s)).Nodup→x ∈ B.bl s→x ∉ B.bl s'→x ∉ A.bl (put s')
 ok:∀ {s},A.ok (put s)→B.ok s
 okw:∀ {s s'},A.ok (put s)→B.ok s'→A.ok (put s')
 bl:∀ {s s'},(b0 :: A.bl (put s)).Nodup→(B.bl s').Nodup→(∀ c ∈ B.bl s',c ∈ B.bl s ∨ (c ≠ b0∧c ∉ A.bl (put s)))→(b0 :: A.bl (put s')).Nodup∧∀ c ∈ A.bl (put s'),c ∈ A.bl (put s) ∨ c ∈ B.bl s'
 wr:∀ {m w m' w' y s z s'},LocR A (put s) m w b0 0 (st y)→(b0 :: A.bl (put s)).Nodup→LocR B s' m' w' b1 off z→Ch m w m' w'→(∀ c,c=b0 ∨ c ∈ A.bl (put s)→c ≠ b1→c ∉ B.bl s→w'.heap[c]?=w.heap[c]?)→Keeps w w' b1 off (GoT.k β)→LocR A (put s') m' w' b0 0 (st z)
section
variable {α β γ:Type} [GoT α] [GoT β] [GoT γ] {A:Ow α} {B:Ow β} {C:Ow γ} {b0 b1 off:Nat} {st:β→α} {put:B.S→A.S}
theorem rows_bl {A:Ow α} {ss:List A.S} {i:Nat} {s':A.S} {c:Nat} (h:c ∈ (ss.set i s').flatMap A.bl):c ∈ ss.flatMap A.bl ∨ c ∈ A.bl s':=by
 obtain ⟨x,hx,hc⟩:=List.mem_flatMap.1 h
 rcases List.mem_or_eq_of_mem_set hx with h1 | h1
 ·exact .inl (List.mem_flatMap.2 ⟨x,h1,hc⟩)
 ·subst h1; exact .inr hc
theorem rows_nd {A : Ow α} : ∀ {ss : List A.S} {i : Nat} {s s' : A.S}, ss[i]? = some s → (ss.flatMap A.bl).Nodup → (A.bl s').Nodup → (∀ c ∈ A.bl s', c ∈ A.bl s ∨ c ∉ ss.flatMap A.bl) → ((ss.set i s').flatMap A.bl).Nodup
 | [],i,_,_,h,_,_,_=>by simp at h
 | t :: ss,0,s,s',h,hn,h',k=>by
  simp at h; subst h
  rw [List.flatMap_cons] at hn k
  obtain ⟨n1,n2,n3⟩:=List.nodup_append.1 hn
  rw [List.set_cons_zero,List.flatMap_cons]
  refine List.nodup_append.2 ⟨h',n2,fun a ha b hb e=>?_⟩
  subst e
  rcases k a ha with h1 | h1
  ·exact n3 a h1 a hb rfl
  ·exact h1 (List.mem_append_right _ hb)
 | t :: ss,i + 1,s,s',h,hn,h',k=>by
  have h:ss[i]?=some s:=by simpa using h
  rw [List.flatMap_cons] at hn k
  obtain ⟨n1,n2,n3⟩:=List.nodup_append.1 hn
  rw [List.set_cons_succ,List.flatMap_cons]
  refine List.nodup_append.2 ⟨n1,rows_nd h n2 h' fun c hc=>(k c hc).imp id fun h1 h2=>h1 (List.mem_append_right _ h2),fun a ha b hb e=>?_⟩
  subst e
  rcases rows_bl hb with h1 | h1
  ·exact n3 a ha a h1 rfl
  ·rcases k a h1 with h2 | h2
   ·exact n3 a ha a (List.mem_flatMap.2 ⟨s,List.mem_of_getElem? h,h2⟩) rfl
   ·exact h2 (List.mem_append_left _ ha)
theorem rows_sub {A:Ow α} {ss:List A.S} {i:Nat} {s:A.S} (h:ss[i]?=some s) {c:Nat} (hc:c ∈ A.bl s):c ∈ ss.flatMap A.bl:=List.mem_flatMap.2 ⟨s,List.mem_of_getElem? h,hc⟩
theorem rows_sep {A : Ow α} : ∀ {ss : List A.S} {i : Nat} {s s' : A.S} {x : Nat}, ss[i]? = some s → (ss.flatMap A.bl).Nodup → x ∈ A.bl s → x ∉ A.bl s' → x ∉ (ss.set i s').flatMap A.bl
 | [],i,_,_,_,h,_,_,_=>by simp at h
 | t :: ss,0,s,s',x,h,hn,h1,h2=>by
  simp at h; subst h
  rw [List.flatMap_cons] at hn
  rw [List.set_cons_zero,List.flatMap_cons]
  exact fun h3=>(List.mem_append.1 h3).elim h2 fun h4=>(List.nodup_append.1 hn).2.2 _ h1 _ h4 rfl
 | t :: ss,i + 1,s,s',x,h,hn,h1,h2=>by
  have h:ss[i]?=some s:=by simpa using h
  rw [List.flatMap_cons] at hn
  rw [List.set_cons_succ,List.flatMap_cons]
  obtain ⟨n1,n2,n3⟩:=List.nodup_append.1 hn
  exact fun h3=>(List.mem_append.1 h3).elim (fun h4=>n3 _ h4 _ (List.mem_flatMap.2 ⟨s,List.mem_of_getElem? h,h1⟩) rfl) (rows_sep h n2 h1 h2)
theorem rows_nd1 {A : Ow α} : ∀ {ss : List A.S} {i : Nat} {s : A.S}, ss[i]? = some s → (ss.flatMap A.bl).Nodup → (A.bl s).Nodup
 | [],i,_,h,_=>by simp at h
 | t :: ss,0,s,h,hn=>by simp at h; subst h; rw [List.flatMap_cons] at hn; exact (List.nodup_append.1 hn).1
 | t :: ss,i + 1,s,h,hn=>by rw [List.flatMap_cons] at hn; exact rows_nd1 (by simpa using h) (List.nodup_append.1 hn).2.1
theorem mem_set_self {σ:Type} {ss:List σ} {i:Nat} {t t' x:σ} (h:x ∈ ss.set i t'):x=t' ∨ x ∈ ss.set i t:=by
 rw [List.mem_iff_getElem] at h
 obtain ⟨j,hj,rfl⟩:=h
 rw [List.getElem_set]
 split
 ·exact .inl rfl
 ·rename_i hne
  right
  rw [List.mem_iff_getElem]
  exact ⟨j,by simpa using hj,by rw [List.getElem_set,if_neg hne]⟩
theorem Cxt.idx {et : TypeId} {E : Ow γ} {st : List γ → α} {put : (Ow.list et E).S → A.S} (c : Cxt A b0 (Ow.list et E) st b1 off put) (ys : List γ) (i : Nat) (bb cc : Nat) (ss : List E.S) (hi : i < ys.length) (hss : ss.length = ys.length) :
  Cxt A b0 E (fun z=>st (ys.set i z)) bb (i * GoT.k γ) (fun t=>put (.at bb cc (ss.set i t))) where
 rd {m w z t} h:=by
  obtain ⟨carr,et',cs,h1,⟨h2,h3,h4,carr2,h5,h6,h7⟩,h8⟩:=c.rd h
  have:=h7.get (i:=i) (s:=t) (x:=z) (by rw [List.getElem?_set_self (by omega)]) (by rw [List.getElem?_set_self hi])
  refine ⟨carr2,et,_,h5,this,fun j v hj=>?_⟩
  rw [List.getElem?_take] at hj
  split at hj
  ·rw [List.getElem?_drop, List.getElem?_take] at hj
   split at hj
   ·simpa using hj
   ·cases hj
  ·cases hj
 mem t:=.inr (c.sub (s:=.at bb cc (ss.set i t)) (by show bb ∈ bb :: _; simp))
 out {t} h:=by
  obtain ⟨h1,h2⟩:=c.out h
  have h2:(bb :: (ss.set i t).flatMap E.bl).Nodup:=h2
  obtain ⟨h3,h4⟩:=List.nodup_cons.1 h2
  have hget:(ss.set i t)[i]?=some t:=List.getElem?_set_self (by omega)
  exact ⟨fun h=>h3 (rows_sub hget h),rows_nd1 hget h4⟩
 sub {t x} h:=c.sub (s:=.at bb cc (ss.set i t)) (by show x ∈ bb :: _; exact List.mem_cons_of_mem _ (rows_sub (List.getElem?_set_self (by omega)) h))
 sep {t t' x} h h1 h2:=by
  have h4:(bb :: (ss.set i t).flatMap E.bl).Nodup:=(c.out h).2
  obtain ⟨h5,h6⟩:=List.nodup_cons.1 h4
  have hget:(ss.set i t)[i]?=some t:=List.getElem?_set_self (by omega)
  refine c.sep (s:=.at bb cc (ss.set i t)) (s':=.at bb cc (ss.set i t')) h (by show x ∈ bb :: _; exact List.mem_cons_of_mem _ (rows_sub hget h1)) fun h3=>?_
  rcases List.mem_cons.1 h3 with e | h3
  ·exact h5 (e ▸ rows_sub hget h1)
  ·have := rows_sep hget h6 h1 h2
   rw [List.set_set] at this
   exact this h3
 ok {t} h:=(show ∀ s ∈ ss.set i t,E.ok s from c.ok h) t (List.mem_of_getElem? (List.getElem?_set_self (l:=ss) (i:=i) (a:=t) (by omega)))
 okw {t t'} h h':=c.okw h (show ∀ s ∈ ss.set i t',E.ok s from fun s hs=>(mem_set_self (t:=t) hs).elim (fun e=>e ▸ h') fun h1=>(show ∀ s ∈ ss.set i t,E.ok s from c.ok h) s h1)
 bl {t t'} h h' k:=by
  obtain ⟨h1,h2⟩:=c.out h
  have h2:(bb :: (ss.set i t).flatMap E.bl).Nodup:=h2
  obtain ⟨h3,h4⟩:=List.nodup_cons.1 h2
  have hget:(ss.set i t)[i]?=some t:=List.getElem?_set_self (by omega)
  have hcs:∀ x,x ∈ bb :: (ss.set i t).flatMap E.bl→x ∈ A.bl (put (.at bb cc (ss.set i t))):=fun x hx=>c.sub (s:=.at bb cc (ss.set i t)) hx
  have q1:=rows_nd hget h4 h' fun x hx=>(k x hx).imp id fun h5 h6=>h5.2 (hcs x (List.mem_cons_of_mem _ h6))
  rw [List.set_set] at q1
  have q2:∀ x ∈ (ss.set i t').flatMap E.bl,x ∈ (ss.set i t).flatMap E.bl ∨ x ∈ E.bl t':=fun x hx=>by
   have:x ∈ ((ss.set i t).set i t').flatMap E.bl:=by rw [List.set_set]; exact hx
   exact rows_bl this
  have q3:(bb :: (ss.set i t').flatMap E.bl).Nodup:=List.nodup_cons.2 ⟨fun hx=>by
   rcases q2 bb hx with h5 | h5
   ·exact h3 h5
   ·rcases k bb h5 with h6 | h6
    ·exact h3 (rows_sub hget h6)
    ·exact h6.2 (hcs bb (by simp)),q1⟩
  obtain ⟨q4,q5⟩:=c.bl (s':=.at bb cc (ss.set i t')) h q3 fun x hx=>by
   rcases List.mem_cons.1 hx with rfl | hx
   ·exact .inl (by show x ∈ x :: _; simp)
   ·rcases q2 x hx with h5 | h5
    ·exact .inl (by show x ∈ bb :: _; exact List.mem_cons_of_mem _ h5)
    ·rcases k x h5 with h6 | h6
     ·exact .inl (by show x ∈ bb :: _; exact List.mem_cons_of_mem _ (rows_sub hget h6))
     ·exact .inr h6
  refine ⟨q4,fun x hx=>(q5 x hx).elim .inl fun h5=>?_⟩
  rcases List.mem_cons.1 h5 with rfl | h5
  ·exact .inl (hcs x (by simp))
  ·exact (q2 x h5).elim (fun h6=>.inl (hcs x (List.mem_cons_of_mem _ h6))) .inr
 wr {m w m' w' z t z' t'} h hnd hl k hb hk:=by
  obtain ⟨o1,o2⟩:=c.out hnd
  have o2:(bb :: (ss.set i t).flatMap E.bl).Nodup:=o2
  have o1:b1 ∉ bb :: (ss.set i t).flatMap E.bl:=o1
  obtain ⟨o3,o4⟩:=List.nodup_cons.1 o2
  have hget:(ss.set i t)[i]?=some t:=List.getElem?_set_self (by omega)
  have hcs:∀ x,x ∈ bb :: (ss.set i t).flatMap E.bl→x ∈ A.bl (put (.at bb cc (ss.set i t))):=fun x hx=>c.sub (s:=.at bb cc (ss.set i t)) hx
  obtain ⟨carr,et',cs,h1,⟨h2,h3,h4,carr2,h5,h6,h7⟩,h8⟩:=c.rd h
  have hb1:b1 ≠ bb:=fun e=>o1 (by rw [e]; simp)
  have hb1n:b1 ∉ E.bl t:=fun h'=>o1 (List.mem_cons_of_mem _ (rows_sub hget h'))
  have hh1:w'.heap[b1]?=w.heap[b1]?:=hb b1 (c.mem _) hb1 hb1n
  obtain ⟨carr',k1,k2,k3⟩:=hk carr2 et h5
  obtain ⟨carr3,et3,cz,g1,g2,g3⟩:=hl
  rw [g1] at k1
  injection k1 with k1; injection k1 with k1 k4; subst k1; subst k4
  have hset:=h7.set k hget (fun x hx hn=>hb x (.inr (hcs x (List.mem_cons_of_mem _ hx))) (fun e=>o3 (e ▸ hx)) hn) o4 g2
  rw [List.set_set,List.set_set] at hset
  have hl1:(ys.set i z).length=ys.length:=List.length_set
  have hl2:(ys.set i z').length=ys.length:=List.length_set
  rw [hl1] at h2 h3 hset
  have hkk:i * GoT.k γ + GoT.k γ ≤ ys.length * GoT.k γ:=by
   have:(i + 1) * GoT.k γ ≤ ys.length * GoT.k γ:=Nat.mul_le_mul_right _ hi
   rw [Nat.add_mul,Nat.one_mul] at this; exact this
  have hkc:ys.length * GoT.k γ ≤ carr2.size:=by rw [h6]; exact Nat.mul_le_mul_right _ h3
  have hez:=E.len g2
  refine c.wr h hnd (s':=.at bb cc (ss.set i t')) ⟨carr,et',cs,hh1.trans h1,⟨by rw [hl2]; exact h2,by rw [hl2]; exact h3,h4,carr3,g1,k2.trans h6,?_⟩,h8⟩ k ?_ ?_
  ·rw [hl2]
   have:(carr2.toList.take (ys.length * GoT.k γ)).take (i * GoT.k γ) ++ cz ++ (carr2.toList.take (ys.length * GoT.k γ)).drop (i * GoT.k γ + GoT.k γ)=carr3.toList.take (ys.length * GoT.k γ):=by
    rw [List.take_take,Nat.min_eq_left (by omega)]
    have e1:(carr2.toList.take (i * GoT.k γ)).length=i * GoT.k γ:=by rw [List.length_take,Array.length_toList]; omega
    apply List.ext_getElem?
    intro j
    rw [List.append_assoc,List.getElem?_take]
    by_cases hj:j < ys.length * GoT.k γ
    ·rw [if_pos hj]
     by_cases hj1:j < i * GoT.k γ
     ·rw [List.getElem?_append_left (by omega), List.getElem?_take, if_pos hj1]
      have:=k3 j (by omega)
      simpa using this.symm
     ·rw [List.getElem?_append_right (by omega), e1]
      by_cases hj2:j < i * GoT.k γ + GoT.k γ
      ·rw [List.getElem?_append_left (by omega)]
       have hc:=List.getElem?_eq_getElem (l:=cz) (i:=j - i * GoT.k γ) (by omega)
       have:=g3 _ _ hc
       rw [show i * GoT.k γ + (j - i * GoT.k γ)=j by omega] at this
       rw [hc]; simpa using this.symm
      ·rw [List.getElem?_append_right (by omega), List.getElem?_drop, List.getElem?_take, hez, show i * GoT.k γ + GoT.k γ + (j - i * GoT.k γ - GoT.k γ) = j by omega, if_pos hj]
       have:=k3 j (by omega)
       simpa using this.symm
    ·rw [if_neg hj, List.getElem?_eq_none]
     have e9:carr2.toList.length=carr2.size:=Array.length_toList
     rw [List.length_append,List.length_append,e1,List.length_drop,List.length_take,e9,hez]; omega
   rw [← this]; exact hset
  ·intro x hx hne hn
   have hn:x ∉ bb :: (ss.set i t).flatMap E.bl:=hn
   exact hb x hx (fun e=>hn (by rw [e]; simp)) fun h'=>hn (List.mem_cons_of_mem _ (rows_sub hget h'))
  ·intro ca ea hca
   rw [h1] at hca
   injection hca with hca; injection hca with q1 q2; subst q1; subst q2
   exact ⟨carr,hh1.trans h1,rfl,fun _ _=>rfl⟩
end
end Go.Proofs.YtmebkoemfjlbcaaGreatDoor
