/- Values that the function owns with all that they lead to: structs of slices, slices of slices. No program is named here. -/
import Derived.Test.YtmebkoemfjlbcaaGreatDoorAp
namespace Go.Proofs.YtmebkoemfjlbcaaGreatDoor
open Go.RowKit

def blkN (w:World) (b:Nat):Nat:=match w.heap[b]? with | some (.cells cs _ _)=>cs.size | _=>0
structure Ow (α : Type) [GoT α] where
 S:Type
 df:S
 s0:S
 bl:S→List Nat
 ok:S→Prop
 ow:S→(Nat→Nat)→World→α→List Value→Prop
 len:∀ {s m w x cs},ow s m w x cs→cs.length=GoT.k α
 one:∀ {s m w x cs},ow s m w x cs→∀ c ∈ cs,c.oneCell'=true
 lt:∀ {s m w x cs},ow s m w x cs→∀ b ∈ bl s,b < w.heap.size
 mono:∀ {s m w m' w' x cs},Ch m w m' w'→(∀ b ∈ bl s,w'.heap[b]?=w.heap[b]?)→ow s m w x cs→ow s m' w' x cs
 pub:∀ {s m w m' x cs},ow s m w x cs→ok s→(∀ b,m b ≤ m' b)→(∀ b ∈ bl s,blkN w b ≤ m' b)→GoT.rep m' w x cs
 s0bl:bl s0=[]
 of:∀ {m w x cs},GoT.rep m w x cs→ow s0 m w x cs
theorem ch_up {m m':Nat→Nat} {w:World} (h:∀ b,m b ≤ m' b):Ch m w m' w:=⟨Nat.le_refl _,fun b _=>h b,fun _ _ _ _=>rfl⟩
def Ow.sh (α : Type) [GoT α] : Ow α where
 S:=Unit
 df:=()
 s0:=()
 bl _:=[]
 ok _:=True
 ow _ m w x cs:=GoT.rep m w x cs
 len h:=GoT.len h
 one h:=GoT.one h
 lt _ b hb:=by cases hb
 mono k _ h:=GoT.mono k h
 pub h _ k _:=GoT.mono (ch_up k) h
 s0bl:=rfl
 of h:=h
inductive Sl (σ : Type) where
 | nil
 | hole
 | sh
 | at (b c:Nat) (ss:List σ)
section
variable {α:Type} [GoT α]
def Rows (A : Ow α) (m : Nat → Nat) (w : World) : List A.S → List α → List Value → Prop
 | [],xs,cs=>xs=[]∧cs=[]
 | s :: ss,xs,cs=>∃ x xs' c1 c2,xs=x :: xs'∧cs=c1 ++ c2∧A.ow s m w x c1∧Rows A m w ss xs' c2
variable {A:Ow α} {m m':Nat→Nat} {w w':World}
theorem Rows.len : ∀ {ss : List A.S} {xs : List α} {cs : List Value}, Rows A m w ss xs cs → ss.length = xs.length ∧ cs.length = xs.length * GoT.k α
 | [],_,_,⟨h1,h2⟩=>by subst h1; subst h2; simp
 | _ :: _,_,_,⟨x,xs',c1,c2,h1,h2,h3,h4⟩=>by
  subst h1; subst h2
  have:=Rows.len h4; have:=A.len h3
  simp only [List.length_cons,List.length_append,Nat.add_mul,Nat.one_mul]; omega
theorem Rows.one : ∀ {ss : List A.S} {xs : List α} {cs : List Value}, Rows A m w ss xs cs → ∀ c ∈ cs, c.oneCell' = true
 | [],_,_,⟨_,h2⟩,c,hc=>by subst h2; cases hc
 | _ :: _,_,_,⟨_,_,c1,c2,_,h2,h3,h4⟩,c,hc=>by
  subst h2
  rcases List.mem_append.1 hc with h | h
  ·exact A.one h3 c h
  ·exact h4.one c h
theorem Rows.lt : ∀ {ss : List A.S} {xs : List α} {cs : List Value}, Rows A m w ss xs cs → ∀ b ∈ ss.flatMap A.bl, b < w.heap.size
 | [],_,_,_,b,hb=>by cases hb
 | _ :: _,_,_,⟨_,_,_,_,_,_,h3,h4⟩,b,hb=>by
  rw [List.flatMap_cons] at hb
  rcases List.mem_append.1 hb with h | h
  ·exact A.lt h3 b h
  ·exact h4.lt b h
theorem Rows.mono (k : Ch m w m' w') : ∀ {ss : List A.S} {xs : List α} {cs : List Value}, (∀ b ∈ ss.flatMap A.bl, w'.heap[b]? = w.heap[b]?) → Rows A m w ss xs cs → Rows A m' w' ss xs cs
 | [],_,_,_,h=>h
 | _ :: _,_,_,hb,⟨x,xs',c1,c2,h1,h2,h3,h4⟩=>⟨x,xs',c1,c2,h1,h2,A.mono k (fun b h=>hb b (by rw [List.flatMap_cons]; exact List.mem_append_left _ h)) h3,h4.mono k fun b h=>hb b (by rw [List.flatMap_cons]; exact List.mem_append_right _ h)⟩
theorem Rows.pub (hm : ∀ b, m b ≤ m' b) : ∀ {ss : List A.S} {xs : List α} {cs : List Value}, Rows A m w ss xs cs → (∀ s ∈ ss, A.ok s) → (∀ b ∈ ss.flatMap A.bl, blkN w b ≤ m' b) → FlatR m' w xs cs
 | [],_,_,⟨h1,h2⟩,_,_=>by subst h1; subst h2; rfl
 | _ :: _,_,_,⟨x,xs',c1,c2,h1,h2,h3,h4⟩,hok,hb=>by
  subst h1; subst h2
  exact ⟨c1,c2,rfl,A.pub h3 (hok _ (by simp)) hm fun b h=>hb b (by rw [List.flatMap_cons]; exact List.mem_append_left _ h),h4.pub hm (fun s h=>hok s (by simp [h])) fun b h=>hb b (by rw [List.flatMap_cons]; exact List.mem_append_right _ h)⟩
theorem Rows.get : ∀ {ss : List A.S} {xs : List α} {cs : List Value}, Rows A m w ss xs cs → ∀ {i : Nat} {s : A.S} {x : α}, ss[i]? = some s → xs[i]? = some x → A.ow s m w x ((cs.drop (i * GoT.k α)).take (GoT.k α))
 | [],_,_,_,i,_,_,hs,_=>by simp at hs
 | _ :: _,_,_,⟨x,xs',c1,c2,h1,h2,h3,h4⟩,0,s,y,hs,hx=>by
  subst h1; subst h2
  simp at hs hx; subst hs; subst hx
  have:=A.len h3
  rw [Nat.zero_mul,List.drop_zero,← this,List.take_left']
  ·exact h3
  ·rfl
 | _ :: _,_,_,⟨x,xs',c1,c2,h1,h2,h3,h4⟩,i + 1,s,y,hs,hx=>by
  subst h1; subst h2
  have hl:=A.len h3
  have:=h4.get (i:=i) (by simpa using hs) (by simpa using hx)
  rw [Nat.add_mul,Nat.one_mul,Nat.add_comm,← hl,List.drop_append,List.drop_of_length_le (by omega),List.nil_append,Nat.add_sub_cancel_left,hl]
  exact this
theorem Rows.set (k : Ch m w m' w') : ∀ {ss : List A.S} {xs : List α} {cs : List Value}, Rows A m w ss xs cs → ∀ {i : Nat} {s s' : A.S} {z : α} {cz : List Value}, ss[i]? = some s → (∀ b ∈ ss.flatMap A.bl, b ∉ A.bl s → w'.heap[b]? = w.heap[b]?) → (ss.flatMap A.bl).Nodup → A.ow s' m' w' z cz → Rows A m' w' (ss.set i s') (xs.set i z) (cs.take (i * GoT.k α) ++ cz ++ cs.drop (i * GoT.k α + GoT.k α))
 | [],_,_,_,i,_,_,_,_,hs,_,_,_=>by simp at hs
 | _ :: ss,_,_,⟨x,xs',c1,c2,h1,h2,h3,h4⟩,0,s,s',z,cz,hs,hb,hnd,hz=>by
  subst h1; subst h2
  simp at hs; subst hs
  rw [List.flatMap_cons] at hb hnd
  refine ⟨z,xs',cz,c2,rfl,?_,hz,h4.mono k fun b h=>hb b (List.mem_append_right _ h) fun h'=>(List.nodup_append.1 hnd).2.2 b h' b h rfl⟩
  have:=A.len h3
  rw [Nat.zero_mul,List.take_zero,List.nil_append,Nat.zero_add,List.drop_append,List.drop_of_length_le (by omega),List.nil_append,← this,Nat.sub_self,List.drop_zero]
 | _ :: ss,_,_,⟨x,xs',c1,c2,h1,h2,h3,h4⟩,i + 1,s,s',z,cz,hs,hb,hnd,hz=>by
  subst h1; subst h2
  have hl:=A.len h3
  rw [List.flatMap_cons] at hb hnd
  obtain ⟨n1,n2,n3⟩:=List.nodup_append.1 hnd
  have hs':ss[i]?=some s:=by simpa using hs
  have hsm:∀ b ∈ A.bl s,b ∈ ss.flatMap A.bl:=fun b h=>List.mem_flatMap.2 ⟨s,List.mem_of_getElem? hs',h⟩
  refine ⟨x,xs'.set i z,c1,_,rfl,?_,A.mono k (fun b h=>hb b (List.mem_append_left _ h) fun h'=>n3 b h b (hsm b h') rfl) h3,h4.set k hs' (fun b h h'=>hb b (List.mem_append_right _ h) h') n2 hz⟩
  rw [Nat.add_mul,Nat.one_mul,Nat.add_comm (i * GoT.k α),← hl,List.take_append,List.take_of_length_le (by omega),Nat.add_sub_cancel_left,Nat.add_assoc,List.drop_append,List.drop_of_length_le (by omega),List.nil_append,Nat.add_sub_cancel_left]
  simp only [List.append_assoc,Nat.add_comm c1.length]
end
def Ow.list {α : Type} [GoT α] (et : TypeId) (A : Ow α) : Ow (List α) where
 S:=Sl A.S
 df:=.nil
 s0:=.sh
 s0bl:=rfl
 of h:=h
 bl s:=match s with | .at b _ ss=>b :: ss.flatMap A.bl | _=>[]
 ok s:=match s with | .at _ _ ss=>∀ s ∈ ss,A.ok s | .nil=>True | _=>False
 ow s m w xs cs := match s with
  | .nil=>xs=[]∧cs=[.slice none 0 0]
  | .hole=>xs=[]∧∃ v,cs=[v]∧v.oneCell'=true
  | .sh=>GoT.rep m w xs cs
  | .at b c ss=>cs=[.slice (some ⟨b,0,none⟩) xs.length c]∧xs.length ≤ c∧c ≤ maxLen∧∃ carr,w.heap[b]?=some (.cells carr et (0,0))∧carr.size=c * GoT.k α∧Rows A m w ss xs (carr.toList.take (xs.length * GoT.k α))
 len {s m w x cs} h:=by
  cases s with
  | nil=>rw [h.2]; rfl
  | hole=>obtain ⟨_,v,rfl,_⟩:=h; rfl
  | sh=>exact GoT.len (α:=List α) h
  | «at» b c ss=>rw [h.1]; rfl
 one {s m w x cs} h:=by
  cases s with
  | nil=>rw [h.2]; simp [Value.oneCell']
  | hole=>obtain ⟨_,v,rfl,hv⟩:=h; simpa using hv
  | sh=>exact GoT.one (α:=List α) h
  | «at» b c ss=>rw [h.1]; simp [Value.oneCell']
 lt {s m w x cs} h b hb:=by
  cases s with
  | nil=>cases hb
  | hole=>cases hb
  | sh=>cases hb
  | «at» b' c ss=>
   obtain ⟨_,_,_,carr,h1,_,h2⟩:=h
   rcases List.mem_cons.1 hb with rfl | hb
   ·exact lt_of_heap h1
   ·exact h2.lt b hb
 mono {s m w m' w' x cs} k hb h:=by
  cases s with
  | nil=>exact h
  | hole=>exact h
  | sh=>exact GoT.mono (α:=List α) k h
  | «at» b c ss=>
   obtain ⟨h1,h2,h3,carr,h4,h5,h6⟩:=h
   exact ⟨h1,h2,h3,carr,(hb b (by simp)).trans h4,h5,h6.mono k fun b hb'=>hb b (by simp only [List.mem_cons]; exact .inr hb')⟩
 pub {s m w m' x cs} h hok hm hb:=by
  cases s with
  | nil=>obtain ⟨rfl,rfl⟩:=h; exact ⟨none,0,rfl,Nat.le_refl _,fun h=>absurd h (by simp)⟩
  | hole=>exact hok.elim
  | sh=>exact hok.elim
  | «at» b c ss=>
   obtain ⟨h1,h2,h3,carr,h4,h5,h6⟩:=h
   refine ⟨_,c,h1,h2,fun _=>⟨b,0,rfl,lt_of_heap h4,?_,?_⟩⟩
   ·have h7 := hb b (by simp)
    have h8:x.length * GoT.k α ≤ c * GoT.k α:=Nat.mul_le_mul_right _ h2
    unfold blkN at h7; rw [h4] at h7; simp only at h7; omega
   ·refine (h6.pub hm hok fun b hb' => hb b (by simp only [List.mem_cons]; exact .inr hb')).row fun j v hj => ?_
    rw [List.getElem?_take] at hj
    split at hj
    ·rw [Nat.zero_add]; simp only [World.cell?,h4]; simpa using hj
    ·cases hj
def Ow.pair {α β : Type} [GoT α] [GoT β] (A : Ow α) (B : Ow β) : Ow (α × β) where
 S:=A.S × B.S
 df:=(A.df,B.df)
 s0:=(A.s0,B.s0)
 s0bl:=by rw [A.s0bl,B.s0bl]; rfl
 of h:=by obtain ⟨c1,c2,rfl,h1,h2⟩:=h; exact ⟨c1,c2,rfl,A.of h1,B.of h2⟩
 bl s:=A.bl s.1 ++ B.bl s.2
 ok s:=A.ok s.1∧B.ok s.2
 ow s m w x cs:=∃ c1 c2,cs=c1 ++ c2∧A.ow s.1 m w x.1 c1∧B.ow s.2 m w x.2 c2
 len h:=by obtain ⟨c1,c2,rfl,h1,h2⟩:=h; rw [List.length_append,A.len h1,B.len h2]; rfl
 one h c hc:=by
  obtain ⟨c1,c2,rfl,h1,h2⟩:=h
  rcases List.mem_append.1 hc with hc | hc
  ·exact A.one h1 c hc
  ·exact B.one h2 c hc
 lt h b hb:=by
  obtain ⟨c1,c2,rfl,h1,h2⟩:=h
  rcases List.mem_append.1 hb with hb | hb
  ·exact A.lt h1 b hb
  ·exact B.lt h2 b hb
 mono k hb h:=by
  obtain ⟨c1,c2,rfl,h1,h2⟩:=h
  exact ⟨c1,c2,rfl,A.mono k (fun b h=>hb b (List.mem_append_left _ h)) h1,B.mono k (fun b h=>hb b (List.mem_append_right _ h)) h2⟩
 pub h hok hm hb:=by
  obtain ⟨c1,c2,rfl,h1,h2⟩:=h
  exact ⟨c1,c2,rfl,A.pub h1 hok.1 hm fun b h=>hb b (List.mem_append_left _ h),B.pub h2 hok.2 hm fun b h=>hb b (List.mem_append_right _ h)⟩
def Ow.struct {α β:Type} [GoT β] (to:α→β) (B:Ow β):@Ow α (GoT.struct α to):=
 @Ow.mk α (GoT.struct α to) B.S B.df B.s0 B.bl B.ok (fun s m w x cs=>B.ow s m w (to x) cs) (fun h=>B.len h) (fun h=>B.one h) (fun h=>B.lt h) (fun k hb h=>B.mono k hb h) (fun h hok hm hb=>B.pub h hok hm hb) B.s0bl (fun h=>B.of h)
/-! ### Parts of what is owned -/
structure Fl {β γ : Type} [GoT β] [GoT γ] (B : Ow β) (C : Ow γ) (d : Nat) (set : β → γ → β) (pu : B.S → C.S → B.S) : Prop where
 le:d + GoT.k γ ≤ GoT.k β
 rd:∀ {s t m w y z cs},B.ow (pu s t) m w (set y z) cs→C.ow t m w z ((cs.drop d).take (GoT.k γ))
 wr:∀ {s t t' m w m' w' y z z' cs cz},B.ow (pu s t) m w (set y z) cs→Ch m w m' w'→(∀ c ∈ B.bl (pu s t),c ∉ C.bl t→w'.heap[c]?=w.heap[c]?)→(B.bl (pu s t)).Nodup→C.ow t' m' w' z' cz→B.ow (pu s t') m' w' (set y z') (cs.take d ++ cz ++ cs.drop (d + GoT.k γ))
 sub:∀ {s t c},c ∈ C.bl t→c ∈ B.bl (pu s t)
 nd:∀ {s t},(B.bl (pu s t)).Nodup→(C.bl t).Nodup
 bl:∀ {s t t'},(B.bl (pu s t)).Nodup→(C.bl t').Nodup→(∀ c ∈ C.bl t',c ∈ C.bl t ∨ c ∉ B.bl (pu s t))→(B.bl (pu s t')).Nodup∧∀ c ∈ B.bl (pu s t'),c ∈ B.bl (pu s t) ∨ c ∈ C.bl t'
 sep:∀ {s t t' x},(B.bl (pu s t)).Nodup→x ∈ C.bl t→x ∉ C.bl t'→x ∉ B.bl (pu s t')
 ok:∀ {s t},B.ok (pu s t)→C.ok t
 okw:∀ {s t t'},B.ok (pu s t)→C.ok t'→B.ok (pu s t')
section
variable {α β γ:Type} [GoT α] [GoT β] [GoT γ]
theorem Fl.id_ (B : Ow β) : Fl B B 0 (fun _ z => z) (fun _ t => t) where
 le:=by omega
 rd {s t m w y z cs} h:=by rw [List.drop_zero,← B.len h,List.take_of_length_le (Nat.le_refl _)]; exact h
 wr {s t t' m w m' w' y z z' cs cz} h _ _ _ h':=by rw [List.take_zero,List.nil_append,Nat.zero_add,← B.len h,List.drop_of_length_le (Nat.le_refl _),List.append_nil]; exact h'
 sub h:=h
 nd h:=h
 bl _ h _:=⟨h,fun c hc=>.inr hc⟩
 sep _ _ h:=h
 ok h:=h
 okw _ h:=h
theorem Fl.fst (A : Ow α) (B : Ow β) : Fl (Ow.pair A B) A 0 (fun y z => (z, y.2)) (fun s t => (t, s.2)) where
 le:=by show 0 + GoT.k α ≤ GoT.k α + GoT.k β; omega
 rd {s t m w y z cs} h:=by
  obtain ⟨c1,c2,rfl,h1,h2⟩:=h
  rw [List.drop_zero,← A.len h1,List.take_left']
  ·exact h1
  ·rfl
 wr {s t t' m w m' w' y z z' cs cz} h k hb hnd h':=by
  obtain ⟨c1,c2,rfl,h1,h2⟩:=h
  refine ⟨cz,c2,?_,h',B.mono k (fun b hb'=>hb b (List.mem_append_right _ hb') fun h''=>(List.nodup_append.1 hnd).2.2 b h'' b hb' rfl) h2⟩
  rw [List.take_zero,List.nil_append,Nat.zero_add,← A.len h1,List.drop_left']
  rfl
 sub h:=List.mem_append_left _ h
 nd h:=(List.nodup_append.1 h).1
 bl {s t t'} h h' k:=by
  obtain ⟨n1,n2,n3⟩:=List.nodup_append.1 h
  refine ⟨List.nodup_append.2 ⟨h',n2,fun a ha b hb e=>?_⟩,fun c hc=>?_⟩
  ·subst e
   rcases k a ha with h1 | h1
   ·exact n3 a h1 a hb rfl
   ·exact h1 (List.mem_append_right _ hb)
  ·rcases List.mem_append.1 hc with h1 | h1
   ·exact .inr h1
   ·exact .inl (List.mem_append_right _ h1)
 sep h h1 h2 h3:=(List.mem_append.1 h3).elim h2 fun h4=>(List.nodup_append.1 h).2.2 _ h1 _ h4 rfl
 ok h:=h.1
 okw h h':=⟨h',h.2⟩
theorem Fl.snd (A : Ow α) (B : Ow β) : Fl (Ow.pair A B) B (GoT.k α) (fun y z => (y.1, z)) (fun s t => (s.1, t)) where
 le:=Nat.le_refl _
 rd {s t m w y z cs} h:=by
  obtain ⟨c1,c2,rfl,h1,h2⟩:=h
  rw [← A.len h1,List.drop_left',← B.len h2,List.take_of_length_le (Nat.le_refl _)]
  ·exact h2
  ·rfl
 wr {s t t' m w m' w' y z z' cs cz} h k hb hnd h':=by
  obtain ⟨c1,c2,rfl,h1,h2⟩:=h
  refine ⟨c1,cz,?_,A.mono k (fun b hb'=>hb b (List.mem_append_left _ hb') fun h''=>(List.nodup_append.1 hnd).2.2 b hb' b h'' rfl) h1,h'⟩
  have e1:=A.len h1; have e2:=B.len h2
  rw [List.drop_of_length_le (by rw [List.length_append]; omega),List.append_nil,← e1,List.take_left']
  rfl
 sub h:=List.mem_append_right _ h
 nd h:=(List.nodup_append.1 h).2.1
 bl {s t t'} h h' k:=by
  obtain ⟨n1,n2,n3⟩:=List.nodup_append.1 h
  refine ⟨List.nodup_append.2 ⟨n1,h',fun a ha b hb e=>?_⟩,fun c hc=>?_⟩
  ·subst e
   rcases k a hb with h1 | h1
   ·exact n3 a ha a h1 rfl
   ·exact h1 (List.mem_append_left _ ha)
  ·rcases List.mem_append.1 hc with h1 | h1
   ·exact .inl (List.mem_append_left _ h1)
   ·exact .inr h1
 sep h h1 h2 h3:=(List.mem_append.1 h3).elim (fun h4=>(List.nodup_append.1 h).2.2 _ h4 _ h1 rfl) h2
 ok h:=h.2
 okw h h':=⟨h.1,h'⟩
theorem Fl.comp {B : Ow α} {C : Ow β} {D : Ow γ} {d1 d2 d : Nat} {set1 : α → β → α} {set2 : β → γ → β} {pu1 : B.S → C.S → B.S} {pu2 : C.S → D.S → C.S} (f : α → β) (pr : B.S → C.S) (h1 : Fl B C d1 set1 pu1) (h2 : Fl C D d2 set2 pu2) (hd : d = d1 + d2) : Fl B D d (fun y z => set1 y (set2 (f y) z)) (fun s t => pu1 s (pu2 (pr s) t)) where
 le:=by have:=h1.le; have:=h2.le; omega
 rd {s t m w y z cs} h:=by
  have:=h2.rd (h1.rd h)
  have e:=h2.le
  rw [List.drop_take,List.take_take,List.drop_drop,Nat.min_eq_left (by omega),← hd] at this
  exact this
 wr {s t t' m w m' w' y z z' cs cz} h k hb hnd h':=by
  have r1:=h1.rd h
  have hn1:=h1.nd hnd
  have r2:=h2.wr r1 k (fun c hc hn=>hb c (h1.sub hc) hn) hn1 h'
  have r3:=h1.wr h k (fun c hc hn=>hb c hc fun h''=>hn (h2.sub h'')) hnd r2
  have e1:=h1.le; have e2:=h2.le; have e3:=B.len h; have e4:=D.len h'
  have:cs.take d1 ++ (((cs.drop d1).take (GoT.k β)).take d2 ++ cz ++ ((cs.drop d1).take (GoT.k β)).drop (d2 + GoT.k γ)) ++ cs.drop (d1 + GoT.k β)=cs.take d ++ cz ++ cs.drop (d + GoT.k γ):=by
   subst hd
   rw [List.take_take,Nat.min_eq_left (by omega),List.drop_take,List.drop_drop,List.append_assoc,List.append_assoc,List.append_assoc,List.append_assoc]
   have a1:cs.take (d1 + d2)=cs.take d1 ++ (cs.drop d1).take d2:=List.take_add
   have a2:cs.drop (d1 + d2 + GoT.k γ)=(cs.drop (d1 + (d2 + GoT.k γ))).take (GoT.k β - (d2 + GoT.k γ)) ++ cs.drop (d1 + GoT.k β):=by
    have:=List.take_append_drop (GoT.k β - (d2 + GoT.k γ)) (cs.drop (d1 + (d2 + GoT.k γ)))
    rw [List.drop_drop] at this
    rw [show d1 + (d2 + GoT.k γ) + (GoT.k β - (d2 + GoT.k γ))=d1 + GoT.k β by omega] at this
    rw [this,Nat.add_assoc]
   rw [a1,a2,List.append_assoc]
  rw [this] at r3
  exact r3
 sub h:=h1.sub (h2.sub h)
 nd h:=h2.nd (h1.nd h)
 bl {s t t'} h h' k:=by
  have hn:=h1.nd h
  obtain ⟨q1,q2⟩:=h2.bl hn h' fun c hc=>(k c hc).imp id fun h'' h3=>h'' (h1.sub h3)
  obtain ⟨q3,q4⟩:=h1.bl h q1 fun c hc=>(q2 c hc).elim .inl fun h''=>(k c h'').elim (fun h3=>.inl (h2.sub h3)) .inr
  refine ⟨q3,fun c hc=>(q4 c hc).elim .inl fun h''=>(q2 c h'').elim (fun h3=>.inl (h1.sub h3)) .inr⟩
 sep h h3 h4:=h1.sep h (h2.sub h3) (h2.sep (h1.nd h) h3 h4)
 ok h:=h2.ok (h1.ok h)
 okw h h':=h1.okw h (h2.okw (h1.ok h) h')
theorem Fl.of {α:Type} {to:α→β} {B:Ow β} {C:Ow γ} {d:Nat} {set:β→γ→β} {pu:B.S→C.S→B.S} (st:α→γ→α) (h:Fl B C d set pu) (h1:∀ x y,to (st x y)=set (to x) y):@Fl α γ (GoT.struct α to) _ (Ow.struct to B) C d st pu:=
 @Fl.mk α γ (GoT.struct α to) _ (Ow.struct to B) C d st pu h.le
  (fun {s t m w y z cs} hh=>by have hh':B.ow (pu s t) m w (to (st y z)) cs:=hh; rw [h1] at hh'; exact h.rd hh')
  (fun {s t t' m w m' w' y z z' cs cz} hh k hb hnd hz=>by
   have hh':B.ow (pu s t) m w (to (st y z)) cs:=hh
   rw [h1] at hh'
   show B.ow (pu s t') m' w' (to (st y z')) _
   rw [h1]; exact h.wr hh' k hb hnd hz)
  (fun h'=>h.sub h') (fun h'=>h.nd h') (fun a b c=>h.bl a b c) (fun a b c=>h.sep a b c) (fun h'=>h.ok h') (fun a b=>h.okw a b)
end
end Go.Proofs.YtmebkoemfjlbcaaGreatDoor
