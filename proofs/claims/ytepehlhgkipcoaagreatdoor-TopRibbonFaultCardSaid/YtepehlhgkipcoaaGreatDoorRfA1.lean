/- Laws of plain functions, part 1. -/
import Derived.Test.YtepehlhgkipcoaaGreatDoorYes
set_option maxRecDepth 8000
namespace Go.Proofs.YtepehlhgkipcoaaGreatDoor
open Go.RowKit
open Classical
theorem T7 {α:Type} {Q:α→Prop} {c:Bool} {X Y:Option α} (hc:c=false) (h:Yes Y Q):Yes (bif c then X else Y) Q:=by rw [hc]; exact h
theorem K3 {α:Type} {Q:α→Prop} {c:Bool} {X Y:Option α} (hc:c=true) (h:Yes X Q):Yes (bif c then X else Y) Q:=by rw [hc]; exact h
theorem Gv {α β:Type} {Q:β→Prop} {x:Option α} {f:α→Option β} (a:α) (h:x=some a) (k:Yes (f a) Q):Yes (x.bind f) Q:=by rw [h]; exact k
theorem Xu {α:Type} {xs:List α} {i:Nat} (h:i < xs.length):idx xs (i:Int)=some xs[i]:=by unfold idx; rw [if_pos (Int.natCast_nonneg i)]; exact List.getElem?_eq_getElem h
def btw (a b x:Int):Bool:=decide (a ≤ x∧x ≤ b)
theorem I9 {a b x:Int}:btw a b x=true ↔ a ≤ x∧x ≤ b:=by simp [btw]
theorem s103 (xs:List Int) (φ:Int→Option Bool) (p:Int→Bool) (hl:xs.length < 9223372036854775807) (h:∀ a ∈ xs,φ a=some (p a)):f64 xs φ=some (xs.any p):=
 Yes.eq (Yes.bind (Yes.mono (Yd xs φ p hl h) fun _ hr=>Yes.some (Jl hr)))
theorem vidx {α:Type} {n:Nat} (v:Vector α n) {i:Nat} (h:i < n):idx v.toList (i:Int)=some v[i]:=by
 rw [Xu (by simpa using h)]; simp
theorem D4 {a b:Int} (ha:0 ≤ a) (hb:0 < b):Hd a b=some (a % b):=by
 unfold Hd; rw [if_neg (by omega),Int.tmod_eq_emod_of_nonneg ha]
theorem pb15:f13=some true:=by kernel_rfl
def OkC (c:Z5):Prop:=(0 ≤ c.Day∧c.Day ≤ 600)∧(0 ≤ c.Loom∧c.Loom ≤ 2)∧c.Chain=0∧c.Tie=0∧1 ≤ c.Picks∧c.Picks ≤ 15
theorem b98 (x a b:Int):f65 x a b=some (!btw a b x):=by unfold f65 btw; by_cases h1:x < a <;> by_cases h2:x > b <;> simp [h1,h2] <;> omega
theorem b69 (a b:Int) (xs:List Int) (hl:xs.length < 9223372036854775807):f30 a b xs=some (xs.all (btw a b)):=by
 unfold f30
 rw [s103 xs _ (fun x=>!btw a b x) hl fun x _=>b98 x a b]
 simp [List.all_eq_not_any_not]
theorem s33v {c:Z5} (h:OkC c):f16 c=some true:=by
 obtain ⟨h1,h2,h3,h4,h5⟩:=h
 have t1:∀ x y z:Int,x ≤ z→z ≤ y→(([z]:List Int).all (btw x y))=true:=fun x y z h1 h2=>by simp [I9,h1,h2]
 refine Yes.eq ?_
 unfold f16
 refine Yes.bind (Gv _ (b69 _ _ _ (by simp)) ?_)
 rw [t1 0 65535 c.Day (by omega) (by omega)]
 refine K3 rfl (Gv _ (b69 _ _ _ (by simp)) ?_)
 rw [t1 0 15 c.Loom (by omega) (by omega)]
 refine K3 rfl (Gv _ (b69 _ _ _ (by simp)) ?_)
 rw [h3,h4]
 refine K3 rfl (Gv _ (b69 _ _ _ (by simp)) ?_)
 rw [t1 1 60 c.Picks (by omega) (by omega)]
 exact Yes.some (Yes.some rfl)
def sm6 (a b c d e f:UInt8):UInt8:=0 + a + b + c + d + e + f
def pl6 (a b c d e f:UInt8):UInt8:=0 + u8w 1 * a + u8w 2 * b + u8w 3 * c + u8w 4 * d + u8w 5 * e + u8w 6 * f
theorem s72v (a b c d e f g h:UInt8):f33 ⟨#[a,b,c,d,e,f,g,h],rfl⟩=some (sm6 a b c d e f,pl6 a b c d e f):=by kernel_rfl
def Dp (c:Z5):List UInt8:=[u8w (c.Day / 256),u8w c.Day,u8w c.Loom,u8w c.Chain,u8w c.Tie,u8w c.Picks,sm6 (u8w (c.Day / 256)) (u8w c.Day) (u8w c.Loom) (u8w c.Chain) (u8w c.Tie) (u8w c.Picks),pl6 (u8w (c.Day / 256)) (u8w c.Day) (u8w c.Loom) (u8w c.Chain) (u8w c.Tie) (u8w c.Picks)]
def Xo (c:Z5):Vector UInt8 8:=⟨(Dp c).toArray,rfl⟩
theorem s35v (c:Z5) (h:OkC c):f18 c=some (Xo c):=by
 refine Yes.eq ?_
 unfold f18
 have h1:W8 c.Day 8=some (c.Day / 256):=by
  unfold W8
  rw [if_neg (by omega)]
  show some (c.Day.fdiv 256)=_
  rw [Int.fdiv_eq_ediv_of_nonneg _ (by omega)]
 exact Gv _ h1 (Gv _ (s72v _ _ _ _ _ _ _ _) (Yes.some rfl))
theorem u8w_n {n:Int} (h:0 ≤ n∧n ≤ 255):(((u8w n).toNat:Nat):Int)=n:=by
 unfold u8w
 have h1:n % 256=n:=Int.emod_eq_of_lt h.1 (by omega)
 rw [h1]
 have:(UInt8.ofNat n.toNat).toNat=n.toNat:=by simp; omega
 rw [this]; omega
theorem or_all:((List.range 601).all fun d=>Qd .or (w64 ((((u8w ((d:Int) / 256)).toNat:Nat):Int) * 256)) (((u8w (d:Int)).toNat:Nat):Int) == (d:Int))=true:=by kernel_rfl
theorem or_day {d:Int} (h:0 ≤ d∧d ≤ 600):Qd .or (w64 ((((u8w (d / 256)).toNat:Nat):Int) * 256)) (((u8w d).toNat:Nat):Int)=d:=by
 obtain ⟨n,rfl⟩:∃ n:Nat,d=n:=⟨d.toNat,by omega⟩
 have:=List.all_eq_true.1 or_all n (List.mem_range.2 (by omega))
 simpa using this
theorem s68v {c:Z5} (h:OkC c):f63 (Xo c)=some (c,0):=by
 obtain ⟨d,l,ch,t,p⟩:=c
 have hv:=s33v h
 obtain ⟨h1,h2,h3,h4,h5⟩:=h
 simp only at h1 h2 h3 h4 h5
 subst h3 h4
 refine Yes.eq ?_
 unfold f63
 have i0:idx (Xo ⟨d,l,0,0,p⟩).toList 0=some (u8w (d / 256)):=rfl
 have i1:idx (Xo ⟨d,l,0,0,p⟩).toList 1=some (u8w d):=rfl
 have i2:idx (Xo ⟨d,l,0,0,p⟩).toList 2=some (u8w l):=rfl
 have i3:idx (Xo ⟨d,l,0,0,p⟩).toList 3=some (u8w 0):=rfl
 have i4:idx (Xo ⟨d,l,0,0,p⟩).toList 4=some (u8w 0):=rfl
 have i5:idx (Xo ⟨d,l,0,0,p⟩).toList 5=some (u8w p):=rfl
 have i6:idx (Xo ⟨d,l,0,0,p⟩).toList 6=some (sm6 (u8w (d / 256)) (u8w d) (u8w l) (u8w 0) (u8w 0) (u8w p)):=rfl
 have i7:idx (Xo ⟨d,l,0,0,p⟩).toList 7=some (pl6 (u8w (d / 256)) (u8w d) (u8w l) (u8w 0) (u8w 0) (u8w p)):=rfl
 have hs:∀ x:Int,Hb x 8=some (w64 (x * 256)):=fun x=>rfl
 have h72:f33 (Xo ⟨d,l,0,0,p⟩)=some (sm6 (u8w (d / 256)) (u8w d) (u8w l) (u8w 0) (u8w 0) (u8w p),pl6 (u8w (d / 256)) (u8w d) (u8w l) (u8w 0) (u8w 0) (u8w p)):=s72v _ _ _ _ _ _ _ _
 have e:(⟨Qd .or (w64 ((((u8w (d / 256)).toNat:Nat):Int) * 256)) (((u8w d).toNat:Nat):Int),(((u8w l).toNat:Nat):Int),(((u8w 0).toNat:Nat):Int),(((u8w 0).toNat:Nat):Int),(((u8w p).toNat:Nat):Int)⟩:Z5)=⟨d,l,0,0,p⟩:=by
  rw [u8w_n (n:=l) (by omega),u8w_n (n:=p) (by omega),or_day h1]; rfl
 generalize Xo ⟨d,l,0,0,p⟩=v at *
 refine Gv _ i0 (Gv _ (hs _) (Gv _ i1 (Gv _ i2 (Gv _ i3 (Gv _ i4 (Gv _ i5 (Gv _ h72 (Yes.jn ?_))))))))
 refine Yes.bind (Yes.mono (Q':=fun b=>b=false) ?_ fun b hb=>?_)
 ·exact Gv _ i6 (T7 (by simp) (Gv _ i7 (Yes.some (by simp))))
 ·subst hb
  refine T7 rfl ?_
  rw [e]
  exact Gv _ hv (T7 rfl (Yes.some rfl))
theorem Pw {x y:Int} (h:x < y):f32 x y=some (-1):=by
 unfold f32 f66 jn
 simp [h,Int.not_lt.2 (Int.le_of_lt h)]
theorem P4 {x y:Int} (h:y < x):f32 x y=some 1:=by
 unfold f32 f66 jn
 simp [h,Int.not_lt.2 (Int.le_of_lt h)]
theorem Ac (x:Int):f32 x x=some 0:=by
 unfold f32 f66 jn
 simp
theorem L4 (x y:Int):∃ z,f32 x y=some z:=by
 rcases Int.lt_trichotomy x y with h | h | h
 ·exact ⟨_,Pw h⟩
 ·exact ⟨0,by subst h; exact Ac x⟩
 ·exact ⟨_,P4 h⟩
theorem s70_m (z:Int):f31 [-1,z]=some (-1):=by kernel_rfl
theorem s70_p (z:Int):f31 [1,z]=some 1:=by kernel_rfl
theorem s34_lt {a b:Z5} (h:a.Day < b.Day):f17 a b=some (-1):=by
 obtain ⟨z,hz⟩:=L4 a.Loom b.Loom
 refine Yes.eq ?_
 unfold f17
 exact Gv _ (Pw h) (Gv _ hz (Gv _ (s70_m z) (Yes.some rfl)))
theorem s34_gt {a b:Z5} (h:b.Day < a.Day):f17 a b=some 1:=by
 obtain ⟨z,hz⟩:=L4 a.Loom b.Loom
 refine Yes.eq ?_
 unfold f17
 exact Gv _ (P4 h) (Gv _ hz (Gv _ (s70_p z) (Yes.some rfl)))
def LgOk (l:List Z5):Prop:=l.length ≤ 12∧l.Pairwise (fun a b=>a.Day < b.Day)∧∀ c ∈ l,OkC c
theorem Df (c:Z5):(Dp c).length=8:=rfl
theorem LgOk.lt {l:List Z5} (h:LgOk l) {i j:Nat} (hij:i < j) (hj:j < l.length):(l[i]'(by omega)).Day < (l[j]'hj).Day:=List.pairwise_iff_getElem.1 h.2.1 i j (by omega) hj hij
theorem Rm (l:List Z5):((l.map Dp).flatten).length=8 * l.length:=by
 induction l with
 | nil=>rfl
 | cons c l ih=>simp only [List.map_cons,List.flatten_cons,List.length_append,ih,Df,List.length_cons]; omega
theorem flat8 : ∀ (L : List (List UInt8)) (i : Nat), (∀ r ∈ L, r.length = 8) → (hi : i < L.length) → (L.flatten.take (8 * i + 8)).drop (8 * i) = L[i]
 | [],_,_,hi=>absurd hi (by simp)
 | r :: L,0,h,_=>by
  have h8:=h r (by simp)
  rw [List.flatten_cons,List.take_append_of_le_length (by omega),List.take_of_length_le (by omega)]
  rfl
 | r :: L,i + 1,h,hi=>by
  have h8:=h r (by simp)
  have ih:=flat8 L i (fun x hx=>h x (by simp [hx])) (by simpa using hi)
  rw [List.flatten_cons,show 8 * (i + 1) + 8=r.length + (8 * i + 8) by omega,List.take_append,List.take_of_length_le (by omega),show r.length + (8 * i + 8) - r.length=8 * i + 8 by omega,show 8 * (i + 1)=r.length + 8 * i by omega,List.drop_append,List.drop_of_length_le (by omega),show r.length + 8 * i - r.length=8 * i by omega,List.nil_append,ih]
  rfl
theorem Cc : ∀ (L : List (List UInt8)), (∀ r ∈ L, r.length = 8) → L.flatten.length = 8 * L.length
 | [],_=>rfl
 | r :: L,h=>by
  have h8:=h r (by simp)
  have ih:=Cc L (fun x hx=>h x (by simp [hx]))
  rw [List.flatten_cons,List.length_append,ih,List.length_cons]; omega
theorem s133v {σ : Type} {L : List (List UInt8)} (h8 : ∀ r ∈ L, r.length = 8) (hL : L.length ≤ 1000) {cons : Ue σ (List UInt8)} {s : σ} (I : Nat → σ → Prop) (h0 : I 0 s)
  (step:∀ i s (hi:i < L.length),I i s→Yes (cons s L[i]) fun r=>r.1=true∧I (i + 1) r.2):Yes (f138 L.flatten 8 σ cons s) fun s=>I L.length s:=by
 have hl:=Cc L h8
 unfold f138
 refine Yes.lp (fun st=>∃ i:Nat,st.2=((8 * i:Nat):Int)∧i ≤ L.length∧I i st.1) (fun st=>8 * L.length - st.2.toNat) ⟨0,rfl,Nat.zero_le _,h0⟩ (by simp; omega) ?_
 rintro ⟨st,j⟩ k ⟨i,hj,hi,hI⟩ hk
 simp only at hj hI
 subst hj
 refine Yes.jn ?_
 by_cases hlt:i < L.length
 ·refine K3 (decide_eq_true (by omega)) (Yes.jn ?_)
  have c1:cut L.flatten ((8 * i:Nat):Int) (L.flatten.length:Int)=some (L.flatten.drop (8 * i)):=by
   unfold cut
   rw [if_pos ⟨by omega,by omega,by omega⟩,Int.toNat_natCast,Int.toNat_natCast,List.take_length]
  have hm:Ux 8 ((L.flatten.drop (8 * i)).length:Int)=8:=by
   unfold Ux
   rw [List.length_drop,if_neg (by omega)]
  have c2:cut L.flatten ((8 * i:Nat):Int) (w64 (((8 * i:Nat):Int) + 8))=some L[i]:=by
   rw [Qj (by omega) (by omega)]
   unfold cut
   rw [if_pos ⟨by omega,by omega,by omega⟩]
   have:=flat8 L i h8 hlt
   rw [← this]
   congr 1
  refine Gv _ c1 ?_
  rw [hm]
  refine Gv _ c2 (Yes.bind ((step i st hlt hI).mono fun r hr=>?_))
  obtain ⟨b,st'⟩:=r
  obtain ⟨hb,hI'⟩:=hr
  simp only at hb hI'
  subst hb
  refine T7 rfl (hk _ ⟨i + 1,?_,hlt,hI'⟩ ?_)
  ·show w64 (((8 * i : Nat) : Int) + 8) = _
   rw [Qj (by omega) (by omega)]; omega
  ·show 8 * L.length - (w64 (((8 * i : Nat) : Int) + 8)).toNat < 8 * L.length - (((8 * i : Nat) : Int)).toNat
   rw [Qj (by omega) (by omega)]; omega
 ·obtain rfl : i = L.length := by omega
  exact T7 (decide_eq_false (by omega)) (Yes.some hI)
theorem s107v {σ : Type} {L : List (List UInt8)} (h8 : ∀ r ∈ L, r.length = 8) (hL : L.length ≤ 1000) {cons : Ue σ (Vector UInt8 8)} {s : σ} (I : Nat → σ → Prop) (h0 : I 0 s)
  (step:∀ i s (hi:i < L.length) (v:Vector UInt8 8),v.toList=L[i]→I i s→Yes (cons s v) fun r=>r.1=true∧I (i + 1) r.2):Yes (f109 L.flatten σ cons s) fun s=>I L.length s:=by
 unfold f109
 have h108:f110 L.flatten 8=some (fun σ cons s=>f138 L.flatten 8 σ cons s):=rfl
 rw [h108]
 simp only [Option.bind_some]
 refine (Yes.bind (Yes.mono (s133v h8 hL (fun i st=>st.1=0∧I i st.2) ⟨rfl,h0⟩ fun i st hi hI=>?_) fun r hr=>?_))
 ·obtain ⟨n, st⟩ := st
  obtain ⟨hn,hI⟩:=hI
  simp only at hn hI
  subst hn
  have h8i:=h8 L[i] (List.getElem_mem hi)
  have hv:Fm 8 L[i]=some ⟨(L[i].take 8).toArray,by simp [h8i]⟩:=by unfold Fm; rw [dif_pos ⟨by omega,by omega⟩]
  show Yes ((Fm 8 L[i]).bind _) _
  refine Gv _ hv (Yes.bind ((step i st hi _ ?_ hI).mono fun r hr=>?_))
  ·show (L[i].take 8) = L[i]
   rw [List.take_of_length_le (by omega)]
  ·obtain ⟨b, st'⟩ := r
   obtain ⟨hb,hI'⟩:=hr
   simp only at hb hI'
   subst hb
   exact T7 rfl (Yes.some ⟨rfl,rfl,hI'⟩)
 ·obtain ⟨n, st⟩ := r
  obtain ⟨hn,hI⟩:=hr
  simp only at hn hI
  subst hn
  exact K3 rfl (Yes.some hI)
abbrev El:=Z5

section
variable {α:Type} (key:α→Int)
def Ht (xs ys:List α):Prop:=∀ v:Int,xs.filter (fun x=>key x == v)=ys.filter (fun x=>key x == v)
def Srt (xs:List α):Prop:=xs.Pairwise fun a b=>key a ≤ key b
end
section
variable {α:Type} (key:α→Int)
variable {key}
theorem Ht.refl (xs:List α):Ht key xs xs:=fun _=>rfl
theorem Ht.trans {xs ys zs:List α} (h:Ht key xs ys) (k:Ht key ys zs):Ht key xs zs:=fun v=>(h v).trans (k v)
theorem Ht.app {a a' b b':List α} (h:Ht key a a') (k:Ht key b b'):Ht key (a ++ b) (a' ++ b'):=fun v=>by rw [List.filter_append,List.filter_append,h v,k v]
theorem Ht.mem {xs ys:List α} (h:Ht key xs ys) {x:α} (hx:x ∈ ys):x ∈ xs:=by
 have h1:x ∈ ys.filter (fun y=>key y == key x):=List.mem_filter.2 ⟨hx,by simp⟩
 rw [← h (key x)] at h1
 exact (List.mem_filter.1 h1).1
theorem Ht.swap {a b:List α} (h:∀ x ∈ a,∀ y ∈ b,key y < key x):Ht key (a ++ b) (b ++ a):=fun v=>by
 rw [List.filter_append,List.filter_append]
 by_cases hb:b.filter (fun x=>key x == v)=[]
 ·rw [hb]; simp
 ·have ha:a.filter (fun x=>key x == v)=[]:=List.filter_eq_nil_iff.2 fun x hx hk=>by
   obtain ⟨y,hy⟩:=List.exists_mem_of_ne_nil _ hb
   obtain ⟨hy1,hy2⟩:=List.mem_filter.1 hy
   have:=h x hx y hy1
   simp at hk hy2
   omega
  rw [ha]; simp
theorem C1 {a b:List α}:Srt key (a ++ b) ↔ Srt key a∧Srt key b∧∀ x ∈ a,∀ y ∈ b,key x ≤ key y:=List.pairwise_append
theorem O0 {p s:List α} {x:α} {i:Nat} (hi:i=p.length) (h:i < (p ++ x :: s).length):(p ++ x :: s)[i]=x:=by subst hi; simp
theorem Nk {p s:List α} {x y:α} {i:Nat} (hi:i=p.length):(p ++ x :: s).set i y=p ++ y :: s:=by subst hi; simp
end
section
variable {α:Type} (key:α→Int)
variable {key}
variable {β:Type} {Q:β→Prop} {K:List El→Option β} {m A B C:List El} {u v:El} {a b:Int}
theorem I3 {i:Nat} (hi:i=A.length) (h:i < (A ++ u :: (B ++ v :: C)).length):(A ++ u :: (B ++ v :: C))[i]=u:=O0 hi h
theorem Oh {i:Nat} (hi:i=A.length + 1 + B.length) (h:i < (A ++ u :: (B ++ v :: C)).length):(A ++ u :: (B ++ v :: C))[i]=v:=by
 have e:A ++ u :: (B ++ v :: C)=(A ++ u :: B) ++ v :: C:=by simp
 simp only [e]
 exact O0 (by simp; omega) _
theorem set_lo {i:Nat} (hi:i=A.length) (y:El):(A ++ u :: (B ++ v :: C)).set i y=A ++ y :: (B ++ v :: C):=Nk hi
theorem set_hi {i:Nat} (hi:i=A.length + 1 + B.length) (y:El):(A ++ u :: (B ++ v :: C)).set i y=A ++ u :: (B ++ y :: C):=by
 have e:∀ z,A ++ u :: (B ++ z :: C)=(A ++ u :: B) ++ z :: C:=fun z=>by simp
 rw [e,e]
 exact Nk (by simp; omega)
theorem swapHi (hm : m = A ++ u :: (B ++ v :: C)) (ha : a = ((A.length + 1 + B.length : Nat) : Int)) (hb : b = (A.length : Int)) (hk : Yes (K (A ++ v :: (B ++ u :: C))) Q) :
  Yes ((idx m b).bind fun y1=>(idx m a).bind fun y2=>(idx m a).bind fun _=>(idx (List.set m (Int.toNat a) y1) b).bind fun _=>K (List.set (List.set m (Int.toNat a) y1) (Int.toNat b) y2)) Q:=by
 subst hm
 refine Yes.bind (Yes.idx hb (by simp) (Yes.bind (Yes.idx ha (by simp; omega) (Yes.bind (Yes.idx ha (by simp; omega) (Yes.bind (Yes.idx hb (by simp) ?_)))))))
 subst ha; subst hb
 rw [Oh rfl,I3 rfl,Int.toNat_natCast,Int.toNat_natCast,set_hi rfl,set_lo rfl]
 exact hk
theorem s106 {φ:El→El→Option Int} {key:El→Int} {xs P X S:List El} (hφ:∀ x y,x ∈ xs→y ∈ xs→∃ c,φ x y=some c∧(c < 0 ↔ key x < key y)) {a b:Int} (hm:xs=P ++ X ++ S) (ha:a=P.length) (hb:b=((P.length + X.length:Nat):Int)) (hs:xs.length < 1000000):Yes (f111 xs a b φ) fun r=>∃ Y,r=P ++ Y ++ S∧Ht key X Y∧Srt key Y:=by
 have hlen:P.length + X.length + S.length < 1000000:=by rw [hm] at hs; simp at hs; omega
 unfold f111
 subst ha; subst hb
 rw [Qj (by omega) (by omega)]
 by_cases h0:X=[]
 ·subst h0
  refine Yes.lp (fun s=>s.1=xs∧s.2=(P.length:Int) + 1) (fun _=>0) ⟨rfl,rfl⟩ (by decide) ?_
  rintro ⟨r,j⟩ k ⟨h1,h2⟩ hk
  simp only at h1 h2
  subst h1; subst h2
  exact Yes.jn (Yes.cond (fun h=>absurd h (by simp; omega)) (fun _=>Yes.some ⟨[],by rw [hm],Ht.refl _,List.Pairwise.nil⟩))
 obtain ⟨x0,X0,rfl⟩:=List.exists_cons_of_ne_nil h0
 have hXl:(x0 :: X0).length=X0.length + 1:=rfl
 refine Yes.lp (fun s => ∃ X1 Z Y : List El, X0 = X1 ++ Z ∧ s.1 = P ++ Y ++ Z ++ S ∧ Y.length = X1.length + 1 ∧ s.2 = ((P.length + Y.length : Nat) : Int) ∧ Ht key (x0 :: X1) Y ∧ Srt key Y) (fun s => (P.length + X0.length + 2) - s.2.toNat)
  ⟨[],X0,[x0],rfl,by rw [hm]; simp,rfl,by simp,Ht.refl _,List.pairwise_singleton _ _⟩ (by simp only; omega) ?_
 rintro ⟨r,j⟩ k ⟨X1,Z,Y,hX,h1,hY,h2,hst,hsr⟩ hk
 simp only at h1 h2 hk
 subst h2
 have hXl2:X0.length=X1.length + Z.length:=by rw [hX]; simp
 refine Yes.jn (Yes.cond (fun hlt=>Yes.bind ?_) (fun hge=>Yes.some ?_))
 rotate_left
 ·have hz : Z = [] := List.length_eq_zero_iff.1 (by simp at hge; omega)
  subst hz
  exact ⟨Y,by rw [h1]; simp,by rw [hX]; simpa using hst,hsr⟩
 have hzl:0 < Z.length:=by simp at hlt; omega
 obtain ⟨z,Z',rfl⟩:=List.exists_cons_of_ne_nil (List.length_pos_iff.1 hzl)
 simp only [List.length_cons] at hXl2
 refine Yes.lp (fun s => ∃ Y1 Y2 : List El, Y = Y1 ++ Y2 ∧ s.1 = P ++ Y1 ++ z :: Y2 ++ Z' ++ S ∧ s.2 = ((P.length + Y1.length : Nat) : Int) ∧ ∀ y ∈ Y2, key z < key y) (fun s => s.2.toNat)
  ⟨Y,[],by simp,by rw [h1]; simp,rfl,fun y hy=>by cases hy⟩ (by simp only; omega) ?_
 rintro ⟨r2,j⟩ k2 ⟨Y1,Y2,hYe,h3,h4,hY2⟩ hk2
 simp only at h3 h4 hk2
 subst h4
 have hYl:Y.length=Y1.length + Y2.length:=by rw [hYe]; simp
 have hr2:r2.length < 1000000:=by rw [h3]; simp; omega
 have fin:(Y1=[] ∨ ∃ y Y1',Y1=Y1' ++ [y]∧key y ≤ key z)→Yes (some r2) (fun r=>Yes (k (r,w64 (((P.length + Y.length:Nat):Int) + 1))) fun r=>∃ Y,r=P ++ Y ++ S∧Ht key (x0 :: X0) Y∧Srt key Y):=fun hfin=>by
  rw [Qj (by omega) (by omega)]
  refine Yes.some (hk _ ⟨X1 ++ [z],Z',Y1 ++ z :: Y2,by rw [hX]; simp,by rw [h3]; simp,by simp; omega,by simp; omega,?_,?_⟩ (by simp only; omega))
  ·have e1 : Ht key (x0 :: (X1 ++ [z])) (Y ++ [z]) := hst.app (Ht.refl [z])
   have e2:Ht key (Y2 ++ [z]) ([z] ++ Y2):=Ht.swap fun x hx y hy=>by rw [List.mem_singleton.1 hy]; exact hY2 x hx
   have e3:Ht key (Y1 ++ (Y2 ++ [z])) (Y1 ++ ([z] ++ Y2)):=(Ht.refl Y1).app e2
   refine e1.trans ?_
   rw [hYe,List.append_assoc]
   exact e3
  ·rw [hYe] at hsr
   obtain ⟨s1,s2,s3⟩:=C1.1 hsr
   refine C1.2 ⟨s1,List.pairwise_cons.2 ⟨fun y hy=>by have:=hY2 y hy; omega,s2⟩,fun x hx y hy=>?_⟩
   rcases List.mem_cons.1 hy with rfl | hy
   ·rcases hfin with rfl | ⟨q, Q, rfl, hq⟩
    ·cases hx
    ·obtain ⟨_, _, s5⟩ := C1.1 s1
     rcases List.mem_append.1 hx with h | h
     ·have:=s5 x h q (by simp); omega
     ·rw [List.mem_singleton.1 h]; exact hq
   ·exact s3 x hx y hy
 refine Yes.jn (Yes.bind (Yes.cond (fun hgt=>?_) (fun hng=>Yes.some (Yes.cond (fun h=>nomatch h) (fun _=>fin (.inl ?_))))))
 rotate_left
 ·exact List.length_eq_zero_iff.1 (by simp at hng; omega)
 have hY1:0 < Y1.length:=by simp at hgt; omega
 obtain ⟨y,Y1',hY1e⟩:∃ y Y1',Y1=Y1' ++ [y]:=by
  have hne:Y1 ≠ []:=List.length_pos_iff.1 hY1
  exact ⟨Y1.getLast hne,Y1.dropLast,(List.dropLast_concat_getLast hne).symm⟩
 have hY1l:Y1.length=Y1'.length + 1:=by rw [hY1e]; simp
 have e:r2=(P ++ Y1') ++ y :: ([] ++ z :: (Y2 ++ Z' ++ S)):=by rw [h3,hY1e]; simp
 have hA:(P ++ Y1').length=P.length + Y1'.length:=by simp
 rw [Qj (n:=((P.length + Y1.length:Nat):Int) - 1) (by omega) (by omega)]
 have hi1:P.length + Y1.length < r2.length:=by rw [h3]; simp
 have hi0:P.length + Y1'.length < r2.length:=by omega
 refine Yes.bind (Yes.idx (n:=P.length + Y1.length) rfl hi1 (Yes.bind (Yes.idx (n:=P.length + Y1'.length) (by omega) hi0 ?_)))
 have g1:r2[P.length + Y1.length]=z:=by simp only [e]; exact Oh (by rw [hA]; simp; omega) _
 have g0:r2[P.length + Y1'.length]=y:=by simp only [e]; exact I3 (by rw [hA]) _
 rw [g1,g0]
 obtain ⟨c,hφc,hcl⟩:=hφ z y (by rw [hm,hX]; simp) (by rw [hm]; have:=hst.mem (x:=y) (by rw [hYe,hY1e]; simp); rw [hX]; simp at this ⊢; grind)
 refine Yes.bind (Yes.of hφc (Yes.some (Yes.cond (fun hc=>?_) (fun hc=>fin (.inr ⟨y,Y1',hY1e,?_⟩)))))
 rotate_left
 ·simp at hc; omega
 have hc:key z < key y:=by simp at hc; omega
 refine Yes.jn (Yes.bind (swapHi e (by rw [hA]; simp; omega) (by rw [hA]; omega) (Yes.some ?_)))
 refine hk2 _ ⟨Y1',y :: Y2,by rw [hYe,hY1e]; simp,by simp,by omega,fun q hq=>?_⟩ (by simp only; omega)
 rcases List.mem_cons.1 hq with rfl | hq
 ·exact hc
 ·exact hY2 q hq
end
theorem Cp {n:Int} (h1:0 ≤ n) (h2:n ≤ 18446744073709551615):Qa n=n:=by
 unfold Qa; rw [IntKind.wrap_u64]; omega
theorem s101 {n:Nat} (h:n < 256):∃ v,f79 (Qa n)=some v:=by
 rw [Cp (by omega) (by omega)]
 unfold f79 f120
 rw [if_pos ⟨by omega,by omega⟩]
 have hl:n < Ra.b.length:=by rw [show Ra.b.length=256 from by kernel_rfl]; exact h
 rw [Xu hl]
 exact ⟨_,rfl⟩
theorem s87 {φ : El → El → Option Int} {key : El → Int} {xs : List El} (hφ : ∀ x y, x ∈ xs → y ∈ xs → ∃ c, φ x y = some c ∧ (c < 0 ↔ key x < key y)) (hl : xs.length ≤ 12) :
  ∃ ys,f46 xs φ=some ys∧Ht key xs ys∧Srt key ys:=by
 obtain ⟨v,hv⟩:=s101 (n:=xs.length) (by omega)
 have h106:=s106 (xs:=xs) (P:=[]) (X:=xs) (S:=[]) (a:=0) (b:=(xs.length:Int)) hφ (by simp) rfl (by simp) (by omega)
 have:Yes (f46 xs φ) fun r=>Ht key xs r∧Srt key r:=by
  unfold f46
  refine Yes.bind (Yes.of hv (Yes.bind ?_))
  obtain ⟨B,hB⟩:∃ B,big=B + 1:=⟨18446744073709551615,by kernel_rfl⟩
  generalize hbb:f78 big xs 0 (xs.length:Int) v φ=z
  rw [hB] at hbb
  subst hbb
  unfold f78
  refine Yes.lp (fun s=>s.1=xs∧s.2.1=0∧s.2.2.1=(xs.length:Int)) (fun _=>0) ⟨rfl,rfl,rfl⟩ (by decide) ?_
  rintro ⟨m,a,b,c,d,e⟩ k ⟨e1,e2,e3⟩ hk
  simp only at e1 e2 e3
  subst e1; subst e2; subst e3
  have h1:decide (w64 ((m.length:Int) - 0) ≤ 12)=true:=by rw [Qj (by omega) (by omega)]; simp; omega
  refine Yes.jn (Yes.cond (fun _=>Yes.bind (h106.mono fun r hr=>?_)) (fun h=>by rw [h1] at h; cases h))
  obtain ⟨Y,h2,h3,h4⟩:=hr
  have:r=Y:=by simpa using h2
  subst this
  exact Yes.some (Yes.some ⟨h3,h4⟩)
 obtain ⟨ys,h,h2⟩:=this
 exact ⟨ys,h,h2⟩
theorem Ht.mem_iff {α:Type} {key:α→Int} {xs ys:List α} (h:Ht key xs ys) {x:α}:x ∈ xs ↔ x ∈ ys:=⟨fun hx=>Ht.mem (fun v=>(h v).symm) hx,fun hx=>Ht.mem h hx⟩
theorem Ht.one {α:Type} {key:α→Int} {xs ys:List α} (h:Ht key xs ys) (hd:xs.Pairwise fun a b=>key a ≠ key b) (hs:Srt key ys):ys.Pairwise fun a b=>key a < key b:=by
 have h1:∀ v:Int,(ys.filter fun x=>key x == v).length ≤ 1:=fun v=>by
  rw [← h v]
  clear h hs
  induction xs with
  | nil=>simp
  | cons a xs ih=>
   obtain ⟨h2,h3⟩:=List.pairwise_cons.1 hd
   rw [List.filter_cons]
   split
   ·rename_i hav
    have:xs.filter (fun x=>key x == v)=[]:=List.filter_eq_nil_iff.2 fun x hx hk=>h2 x hx (by simp at hav hk; omega)
    rw [this]; simp
   ·exact ih h3
 clear h hd
 induction ys with
 | nil=>exact .nil
 | cons a ys ih=>
  obtain ⟨h2,h3⟩:=List.pairwise_cons.1 hs
  refine List.pairwise_cons.2 ⟨fun b hb=>?_,ih h3 fun v=>by
   have:=h1 v
   rw [List.filter_cons] at this
   split at this
   ·rw [List.length_cons] at this; omega
   ·exact this⟩
  have h4:=h2 b hb
  have h5:=h1 (key a)
  rw [List.filter_cons] at h5
  simp at h5
  have:=h5 b hb
  omega
theorem Ly {κ ν:Type} [DecidableEq κ] {m:List (κ × ν)} {k k':κ} {v:ν} (h:k ≠ k'):Hf (H5 m k v) k'=Hf m k':=by
 induction m with
 | nil=>simp [H5,Hf,h]
 | cons p m ih=>
  unfold H5
  by_cases hp:p.1=k
  ·rw [if_pos hp]
   have:p.1 ≠ k':=fun h2=>h (hp ▸ h2)
   simp [Hf,h,this]
  ·rw [if_neg hp]
   by_cases hq:p.1=k'
   ·simp [Hf,hq]
   ·simp only [Hf, List.find?_cons, hq, decide_false] at ih ⊢
    exact ih
def U5 (c:Z5):Int:=16 * c.Day + c.Loom
theorem s70_0 {z:Int} (h:z=-1 ∨ z=0 ∨ z=1):f31 [0,z]=some z:=by
 rcases h with rfl | rfl | rfl <;> kernel_rfl
theorem s34k {a b:Z5} (ha:OkC a) (hb:OkC b):∃ c,f17 a b=some c∧(c < 0 ↔ U5 a < U5 b):=by
 have h1:=ha.2.1
 have h2:=hb.2.1
 unfold U5
 rcases Int.lt_trichotomy a.Day b.Day with h | h | h
 ·exact ⟨_,s34_lt h,by omega⟩
 ·have hz:∃ z,f32 a.Loom b.Loom=some z∧(z=-1 ∨ z=0 ∨ z=1)∧(z < 0 ↔ a.Loom < b.Loom):=by
   rcases Int.lt_trichotomy a.Loom b.Loom with g | g | g
   ·exact ⟨_,Pw g,by omega,by omega⟩
   ·exact ⟨0,by rw [g]; exact Ac _,by omega,by omega⟩
   ·exact ⟨_,P4 g,by omega,by omega⟩
  obtain ⟨z,z1,z2,z3⟩:=hz
  refine ⟨z,?_,by omega⟩
  refine Yes.eq ?_
  unfold f17
  refine Gv 0 (by rw [h]; exact Ac _) (Gv _ z1 (Gv _ (s70_0 z2) (Yes.some rfl)))
 ·exact ⟨_,s34_gt h,by omega⟩
def LgK (l:List Z5):Prop:=l.length ≤ 12∧l.Pairwise (fun a b=>U5 a < U5 b)∧∀ c ∈ l,OkC c
theorem LgK.lt {l:List Z5} (h:LgK l) {i j:Nat} (hij:i < j) (hj:j < l.length):U5 (l[i]'(by omega)) < U5 (l[j]'hj):=List.pairwise_iff_getElem.1 h.2.1 i j (by omega) hj hij
theorem LgK.ord {l:List Z5} (h:LgK l) {i j:Nat} (hij:i < j) (hj:j < l.length):∃ c,f17 (l[i]'(by omega)) (l[j]'hj)=some c∧c < 0:=by
 obtain ⟨c,h1,h2⟩:=s34k (h.2.2 (l[i]'(by omega)) (List.getElem_mem _)) (h.2.2 l[j] (List.getElem_mem _))
 exact ⟨c,h1,h2.2 (h.lt hij hj)⟩
theorem s17k {l:List Z5} (h:LgK l):f7 l=some ((l.map Dp).flatten,0,0):=by
 have h12:=h.1
 refine Yes.eq ?_
 unfold f7
 refine Yes.jn (T7 (decide_eq_false (by omega)) (Yes.jn ?_))
 refine Yes.upto l.length (by omega) (fun i zs=>zs=((l.take i).map Dp).flatten) (by simp) (fun i zs k hi hI hk=>?_) (fun zs k hI=>?_)
 ·have hc := h.2.2 l[i] (List.getElem_mem hi)
  refine K3 (decide_eq_true (by omega)) (Yes.jn (Gv _ (Xu hi) (Yes.jn (Gv _ (s33v hc) (T7 rfl ?_)))))
  refine Yes.bind (Yes.mono (Q':=fun b=>b=false) ?_ fun b hb=>?_)
  ·refine Yes.cond (fun h0 => ?_) (fun _ => Yes.some rfl)
   have h0:=of_decide_eq_true h0
   rw [Qj (by omega) (by omega),show ((i:Int) - 1)=((i - 1:Nat):Int) by omega]
   obtain ⟨q,q1,q2⟩:=h.ord (i:=i - 1) (j:=i) (by omega) hi
   exact Gv _ (Xu (by omega)) (Gv _ q1 (Yes.some (decide_eq_false (by omega))))
  ·subst hb
   refine T7 rfl (Gv _ (s35v _ hc) (Gv _ (show cut (Xo l[i]).toList 0 ((8:Nat):Int)=some (Dp l[i]) from rfl) (Yes.bind (Yes.apnd ?_ ?_ (hk _ ?_)))))
   ·subst hI
    rw [Rm,Df,List.length_take]
    omega
   ·subst hI
    rw [Rm,Df,List.length_take]
    omega
   ·subst hI
    rw [List.take_succ_eq_append_getElem hi,List.map_append,List.flatten_append]
    simp only [List.map_cons,List.map_nil,List.flatten_cons,List.flatten_nil,List.append_nil]
 ·subst hI
  refine T7 (decide_eq_false (by omega)) ?_
  rw [List.take_length]
  exact Yes.some rfl
theorem s47k {l:List Z5} (h:LgK l):f45 (l.map Dp).flatten=some (l,0,0):=by
 have h12:=h.1
 have hfl:=Rm l
 refine Yes.eq ?_
 unfold f45
 refine Yes.jn (T7 (decide_eq_false (by omega)) (Gv _ (D4 (by omega) (by omega)) (T7 ?_ (Yes.jn ?_))))
 ·have : ((l.map Dp).flatten.length : Int) % 8 = 0 := by omega
  rw [this]; rfl
 have h83:f77 (l.map Dp).flatten=some (fun σ cons s=>f109 (l.map Dp).flatten σ cons s):=rfl
 rw [h83]
 simp only [Option.bind_some]
 refine Yes.bind (Yes.mono (s107v (L:=l.map Dp) (fun r hr=>?_) (by simp; omega) (fun i st=>st.1=0∧st.2=(l.take i,0,0)) ⟨rfl,by simp⟩ fun i st hi v hv hI=>?_) fun r hr=>?_)
 ·obtain ⟨c, _, rfl⟩ := List.mem_map.1 hr
  exact Df c
 ·obtain ⟨n, st⟩ := st
  obtain ⟨hn,hI⟩:=hI
  simp only at hn hI
  subst hn hI
  have hi':i < l.length:=by simpa using hi
  have hc:=h.2.2 l[i] (List.getElem_mem hi')
  have hv':v=Xo l[i]:=by
   apply Vector.toList_inj.1
   rw [hv,List.getElem_map]; rfl
  subst hv'
  show Yes ((f63 (Xo l[i])).bind _) _
  refine Gv _ (s68v hc) (Yes.bind (Yes.mono (Q':=fun e=>e=0) ?_ fun e he=>?_))
  ·refine Yes.bind (Yes.mono (Q' := fun b => b = false) ?_ fun b hb => ?_)
   ·refine K3 rfl (Yes.cond (fun h0 => ?_) (fun _ => Yes.some rfl))
    have h0:=of_decide_eq_true h0
    have hti:(l.take i).length=i:=by rw [List.length_take]; omega
    rw [hti] at h0 ⊢
    rw [Qj (by omega) (by omega),show ((i:Int) - 1)=((i - 1:Nat):Int) by omega]
    refine Gv _ (Xu (show i - 1 < (l.take i).length by omega)) ?_
    rw [List.getElem_take]
    obtain ⟨q,q1,q2⟩:=h.ord (i:=i - 1) (j:=i) (by omega) hi'
    exact Gv _ q1 (Yes.some (decide_eq_false (by omega)))
   ·subst hb
    exact T7 rfl (Yes.some rfl)
  ·subst he
   refine Yes.jn (T7 rfl (Yes.bind (Yes.apnd (by rw [List.length_take]; simp; omega) (by rw [List.length_take]; simp; omega) (Yes.some ⟨rfl,rfl,?_⟩))))
   rw [List.take_succ_eq_append_getElem hi']
 ·obtain ⟨n, st⟩ := r
  obtain ⟨hn,hst⟩:=hr
  simp only at hn hst
  subst hn hst
  rw [List.length_map,List.take_length]
  exact K3 rfl (Yes.some rfl)
theorem Bu : ∀ {xs ys : List Z5}, xs.Pairwise (fun c d => U5 c < U5 d) → ys.Pairwise (fun c d => U5 c < U5 d) → (∀ c, c ∈ xs ↔ c ∈ ys) → xs = ys
 | [],[],_,_,_=>rfl
 | [],y :: ys,_,_,h=>absurd ((h y).2 (by simp)) (by simp)
 | x :: xs,[],_,_,h=>absurd ((h x).1 (by simp)) (by simp)
 | x :: xs,y :: ys,h1,h2,h=>by
  obtain ⟨p1,p2⟩:=List.pairwise_cons.1 h1
  obtain ⟨q1,q2⟩:=List.pairwise_cons.1 h2
  have hxy:x=y:=by
   rcases List.mem_cons.1 ((h x).1 (by simp)) with e | e
   ·exact e
   ·rcases List.mem_cons.1 ((h y).2 (by simp)) with e2 | e2
    ·exact e2.symm
    ·have:=q1 x e; have:=p1 y e2; omega
  subst hxy
  rw [Bu p2 q2 fun c=>⟨fun hc=>?_,fun hc=>?_⟩]
  ·rcases List.mem_cons.1 ((h c).1 (by simp [hc])) with e | e
   ·subst e; have:=p1 c hc; omega
   ·exact e
  ·rcases List.mem_cons.1 ((h c).2 (by simp [hc])) with e | e
   ·subst e; have:=q1 c hc; omega
   ·exact e
theorem Lx {κ ν:Type} [DecidableEq κ] {m:List (κ × ν)} {k:κ} {v:ν}:Hf (H5 m k v) k=some v:=by
 induction m with
 | nil=>simp [H5,Hf]
 | cons p m ih=>
  unfold H5
  by_cases hp:p.1=k
  ·rw [if_pos hp]; simp [Hf]
  ·rw [if_neg hp]
   simp only [Hf,List.find?_cons,hp,decide_false] at ih ⊢
   exact ih
theorem D9 : ∀ {zs y : List Z5}, zs.Nodup → (∀ c ∈ zs, c ∈ y) → zs.length ≤ y.length
 | [],_,_,_=>Nat.zero_le _
 | c :: zs,y,h,hs=>by
  obtain ⟨h1,h2⟩:=List.nodup_cons.1 h
  have hc:=hs c (by simp)
  have ih:=D9 (y:=y.erase c) h2 fun d hd=>(List.mem_erase_of_ne (fun (e:d=c)=>h1 (by rw [← e]; exact hd))).2 (hs d (List.mem_cons_of_mem _ hd))
  rw [List.length_erase_of_mem hc] at ih
  have:0 < y.length:=List.length_pos_of_mem hc
  rw [List.length_cons]; omega
theorem LgK.inj {y:List Z5} (h:LgK y) {a b:Z5} (ha:a ∈ y) (hb:b ∈ y) (he:U5 a=U5 b):a=b:=by
 obtain ⟨i,hi,rfl⟩:=List.getElem_of_mem ha
 obtain ⟨j,hj,rfl⟩:=List.getElem_of_mem hb
 rcases Nat.lt_trichotomy i j with e | e | e
 ·have:=h.lt e hj; omega
 ·subst e; rfl
 ·have:=h.lt e hi; omega
def Jn (y zs:List Z5) (mp:List (G7 × Z5)):Prop:=zs.Nodup∧(∀ c ∈ zs,c ∈ y)∧∀ sp c,Hf mp sp=some c ↔ c ∈ zs∧sp=(⟨c.Day,c.Loom⟩:G7)
theorem s19k {ls : List (List Z5)} {y : List Z5} (hn : ls.length ≤ 10) (hls : ∀ l ∈ ls, LgK l) (hy : LgK y) (h1 : ∀ l ∈ ls, ∀ c ∈ l, c ∈ y) (h2 : ∀ c ∈ y, ∃ l ∈ ls, c ∈ l) :
  f20 (ls.map fun l=>(l.map Dp).flatten)=some (y,0,0):=by
 have hy12:=hy.1
 refine Yes.eq ?_
 unfold f20
 refine Yes.jn (T7 (decide_eq_false (by rw [List.length_map]; omega)) (Yes.jn ?_))
 refine Yes.upto ls.length (by omega) (fun i zs=>zs=ls.take i) rfl (fun i zs k hi hI hk=>?_) (fun zs k hI=>?_)
 ·subst hI
  refine K3 (decide_eq_true (by rw [List.length_map]; omega)) (Yes.jn (Gv _ (Xu (by rw [List.length_map]; exact hi)) ?_))
  rw [List.getElem_map]
  refine Gv _ (s47k (hls _ (List.getElem_mem hi))) (Yes.jn (T7 rfl (Yes.bind (Yes.apnd (by rw [List.length_take]; simp; omega) (by rw [List.length_take]; simp; omega) (hk _ ?_)))))
  rw [List.take_succ_eq_append_getElem hi]
 subst hI
 rw [List.take_length]
 refine T7 (decide_eq_false (by rw [List.length_map]; omega)) (Yes.jn ?_)
 refine Yes.upto2 ls.length (by omega) (fun i zs mp=>Jn y zs mp∧∀ (j:Nat) (hj:j < ls.length),j < i→∀ c ∈ ls[j],c ∈ zs) ⟨⟨List.nodup_nil,by simp,fun sp c=>⟨fun h=>by simp [Hf] at h,fun h=>by simp at h⟩⟩,fun j _ h=>absurd h (by omega)⟩ (fun i zs mp k hi hI hk=>?_) (fun zs mp k hI=>?_)
 ·obtain ⟨hJ, hP⟩ := hI
  refine K3 (decide_eq_true (by omega)) (Yes.jn (Gv _ (Xu hi) ?_))
  have hw:=hls _ (List.getElem_mem hi)
  have hwy:=h1 _ (List.getElem_mem hi)
  have hw12:=hw.1
  refine Yes.upto2 (ls[i]).length (by omega) (fun j zs' mp'=>Jn y zs' mp'∧(∀ c ∈ zs,c ∈ zs')∧∀ c ∈ (ls[i]).take j,c ∈ zs') ⟨hJ,fun _ h=>h,by simp⟩ (fun j zs' mp' k' hj hI' hk'=>?_) (fun zs' mp' k' hI'=>?_)
  ·obtain ⟨⟨n1, n2, n3⟩, n4, n5⟩ := hI'
   have hcy:=hwy (ls[i])[j] (List.getElem_mem hj)
   have hz12:=D9 n1 n2
   refine K3 (decide_eq_true (by omega)) (Yes.jn (Gv _ (Xu hj) (Yes.jn ?_)))
   generalize hc:(ls[i])[j]=c at *
   cases hg:Hf mp' (⟨c.Day,c.Loom⟩:G7) with
   | none=>
    refine Yes.bind (T7 rfl (Yes.some (T7 rfl (K3 rfl (Yes.bind (Yes.apnd (by simp; omega) (by simp; omega) (hk' _ _ ⟨⟨?_,?_,fun sp d=>?_⟩,fun d hd=>List.mem_append.2 (.inl (n4 d hd)),fun d hd=>?_⟩)))))))
    ·refine List.nodup_append.2 ⟨n1, by simp, fun a ha b hb => ?_⟩
     rw [List.mem_singleton.1 hb]
     rintro rfl
     rw [(n3 _ a).2 ⟨ha,rfl⟩] at hg
     cases hg
    ·intro d hd
     rcases List.mem_append.1 hd with hd | hd
     ·exact n2 d hd
     ·rw [List.mem_singleton.1 hd]; exact hcy
    ·by_cases hs : (⟨c.Day, c.Loom⟩ : G7) = sp
     ·subst hs
      rw [Lx]
      constructor
      ·intro h; rw [← Option.some.inj h]; exact ⟨by simp,rfl⟩
      ·rintro ⟨hd, he⟩
       rcases List.mem_append.1 hd with hd | hd
       ·rw [(n3 _ d).2 ⟨hd,he⟩] at hg; cases hg
       ·rw [List.mem_singleton.1 hd]
     ·rw [Ly hs, n3]
      constructor
      ·rintro ⟨hd,he⟩; exact ⟨List.mem_append.2 (.inl hd),he⟩
      ·rintro ⟨hd, he⟩
       rcases List.mem_append.1 hd with hd | hd
       ·exact ⟨hd,he⟩
       ·rw [List.mem_singleton.1 hd] at he; exact absurd he.symm hs
    ·rw [List.take_succ_eq_append_getElem hj, hc] at hd
     rcases List.mem_append.1 hd with hd | hd
     ·exact List.mem_append.2 (.inl (n5 d hd))
     ·exact List.mem_append.2 (.inr hd)
   | some x=>
    obtain ⟨hx,he⟩:=(n3 _ x).1 hg
    have hxc:x=c:=hy.inj (n2 x hx) hcy (by injection he with e1 e2; unfold U5; omega)
    subst hxc
    refine Yes.bind (K3 rfl (Yes.some (T7 (by simp) (T7 rfl (hk' _ _ ⟨⟨n1,n2,n3⟩,n4,fun d hd=>?_⟩)))))
    rw [List.take_succ_eq_append_getElem hj,hc] at hd
    rcases List.mem_append.1 hd with hd | hd
    ·exact n5 d hd
    ·rw [List.mem_singleton.1 hd]; exact hx
  ·obtain ⟨hJ', n4, n5⟩ := hI'
   rw [List.take_length] at n5
   refine T7 (decide_eq_false (by omega)) (hk _ _ ⟨hJ',fun j hj hji c hc=>?_⟩)
   rcases (by omega:j < i ∨ j=i) with e | e
   ·exact n4 c (hP j hj e c hc)
   ·subst e; exact n5 c hc
 ·obtain ⟨⟨n1, n2, n3⟩, hP⟩ := hI
  have hz12:=D9 n1 n2
  have hmem:∀ c,c ∈ zs ↔ c ∈ y:=fun c=>⟨n2 c,fun hc=>by
   obtain ⟨l,hl,hcl⟩:=h2 c hc
   obtain ⟨j,hj,rfl⟩:=List.getElem_of_mem hl
   exact hP j hj hj c hcl⟩
  refine T7 (decide_eq_false (by omega)) (Yes.jn (T7 (decide_eq_false (by omega)) ?_))
  obtain ⟨ys,g1,g2,g3⟩:=s87 (xs:=zs) (φ:=fun a0 a1=>f17 a0 a1) (key:=U5) (fun p q hp hq=>s34k (hy.2.2 p (n2 p hp)) (hy.2.2 q (n2 q hq))) (by omega)
  refine Gv _ g1 (Yes.some ?_)
  have hne:zs.Pairwise fun a b=>U5 a ≠ U5 b:=List.Pairwise.imp_of_mem (fun ha hb hab he=>hab (hy.inj (n2 _ ha) (n2 _ hb) he)) n1
  have hs:=g2.one hne g3
  have:ys=y:=Bu hs hy.2.1 fun c=>by rw [← hmem]; exact g2.mem_iff.symm
  rw [this]
theorem Wp {α:Type} {Q:α→Prop} {c:Bool} {X Y:Option α} (hc:c=false) (h:Yes Y Q):Yes (bif c then X else Y) Q:=by rw [hc]; exact h
theorem Bc {α:Type} {Q:α→Prop} {c:Bool} {X Y:Option α} (hc:c=true) (h:Yes X Q):Yes (bif c then X else Y) Q:=by rw [hc]; exact h
theorem Q7 {α β:Type} {Q:β→Prop} {x:Option α} {f:α→Option β} (a:α) (h:x=some a) (k:Yes (f a) Q):Yes (x.bind f) Q:=by rw [h]; exact k
theorem F9 {α:Type} {xs:List α} {i:Nat} (h:i < xs.length):idx xs (i:Int)=some xs[i]:=by unfold idx; rw [if_pos (Int.natCast_nonneg i)]; exact List.getElem?_eq_getElem h
theorem Yi {α:Type} {xs:List α} {i:Nat} (h:i < xs.length):xs.take (i + 1)=xs.take i ++ [xs[i]]:=by
 rw [List.take_add_one,List.getElem?_eq_getElem h]; rfl
def Sp (a b x:Int):Bool:=decide (a ≤ x∧x ≤ b)
theorem S6 {a b x:Int}:Sp a b x=true ↔ a ≤ x∧x ≤ b:=by simp [Sp]
theorem Oz (xs:List Int) (φ:Int→Option Bool) (p:Int→Bool) (hl:xs.length < 9223372036854775807) (h:∀ a ∈ xs,φ a=some (p a)):f64 xs φ=some (xs.any p):=
 Yes.eq (Yes.bind (Yes.mono (Yd xs φ p hl h) fun _ hr=>Yes.some (Jl hr)))
theorem c250z (xs:List Z8) (φ:Z8→Option Bool) (p:Z8→Bool) (hl:xs.length < 9223372036854775807) (h:∀ a ∈ xs,φ a=some (p a)):f135 xs φ=some (xs.any p):=
 Yes.eq (Yes.bind (Yes.mono (Yd xs φ p hl h) fun _ hr=>Yes.some (Jl hr)))
theorem b192z (x a b:Int):f121 x a b=some (!Sp a b x):=by unfold f121 Sp; by_cases h1:x < a <;> by_cases h2:x > b <;> simp [h1,h2] <;> omega
theorem Ln (a b:Int) (xs:List Int) (hl:xs.length < 9223372036854775807) (h:∀ x ∈ xs,a ≤ x∧x ≤ b):f80 a b xs=some true:=by
 unfold f80
 rw [Oz xs _ (fun x=>!Sp a b x) hl fun x _=>b192z x a b]
 simp only [Option.bind_some,Option.some.injEq,Bool.not_eq_true',List.any_eq_false]
 exact fun x hx=>by rw [S6.2 (h x hx)]; simp
theorem b179z (x a b:Int):f145 x a b=some (!Sp a b x):=by unfold f145 Sp; by_cases h1:x < a <;> by_cases h2:x > b <;> simp [h1,h2] <;> omega
theorem c103z (a b:Int) (xs:List Int) (hl:xs.length < 9223372036854775807) (h:∀ x ∈ xs,a ≤ x∧x ≤ b):f125 a b xs=some true:=by
 unfold f125
 rw [Oz xs _ (fun x=>!Sp a b x) hl fun x _=>b179z x a b]
 simp only [Option.bind_some,Option.some.injEq,Bool.not_eq_true',List.any_eq_false]
 exact fun x hx=>by rw [S6.2 (h x hx)]; simp
theorem b241z (x a b:Int):f102 x a b=some (!Sp a b x):=by unfold f102 Sp; by_cases h1:x < a <;> by_cases h2:x > b <;> simp [h1,h2] <;> omega
theorem c184z (a b:Int) (xs:List Int) (hl:xs.length < 9223372036854775807) (h:∀ x ∈ xs,a ≤ x∧x ≤ b):f67 a b xs=some true:=by
 unfold f67
 rw [Oz xs _ (fun x=>!Sp a b x) hl fun x _=>b241z x a b]
 simp only [Option.bind_some,Option.some.injEq,Bool.not_eq_true',List.any_eq_false]
 exact fun x hx=>by rw [S6.2 (h x hx)]; simp
theorem Xn {n:Nat} (h:n ≤ 24):Hb (1:Int) (n:Int)=some ((2 ^ n:Nat):Int):=by
 unfold Hb
 rw [if_neg (by omega),Int.toNat_natCast,show min n 64=n by omega]
 have h1:2 ^ n ≤ 16777216:=Nat.pow_le_pow_right (n:=2) (by omega) h
 have h2:(1:Int) * 2 ^ n=((2 ^ n:Nat):Int):=by rw [Int.one_mul]; norm_cast
 rw [h2]
 generalize 2 ^ n=b at h1 ⊢
 rw [Qj (by omega) (by omega)]
theorem Xp {H:Nat} (h:H ≤ 12):1 ≤ 2 ^ H∧2 ^ H ≤ 4096:=⟨Nat.one_le_two_pow,Nat.pow_le_pow_right (n:=2) (by omega) h⟩
def E2 (H:Nat) (h:TieHarness):Prop:=h.Hooks=H∧(1 ≤ h.Warps.length∧h.Warps.length ≤ 96)∧∀ a ∈ h.Warps,0 ≤ a∧a ≤ (H:Int) - 1
def DOkz (H:Nat) (d:Design):Prop:=d.Hooks=H∧(1 ≤ d.Rows.length∧d.Rows.length ≤ 30)∧∀ r ∈ d.Rows,0 ≤ r∧r < ((2 ^ H:Nat):Int)
theorem c105z {H:Nat} {h:TieHarness} (hH:1 ≤ H∧H ≤ 12) (hkz:E2 H h):f35 h=some 0:=by
 obtain ⟨k1,k2,k3⟩:=hkz
 refine Yes.eq ?_
 unfold f35
 refine Yes.jn (Q7 true (c184z _ _ _ (by simp) fun a ha=>by rw [List.mem_singleton.1 ha,k1]; omega) (Wp rfl (Wp (decide_eq_false (by omega)) (Wp (beq_eq_false_iff_ne.2 (by omega)) (Q7 true (c184z _ _ _ (by omega) fun a ha=>?_) (Wp rfl (Yes.some rfl)))))))
 rw [k1,Qj (by omega) (by omega)]; exact k3 a ha
theorem c102z {H:Nat} {d:Design} (hH:1 ≤ H∧H ≤ 12) (hd:DOkz H d):f84 d=some 0:=by
 obtain ⟨k1,k2,k3⟩:=hd
 have hp:=Xp hH.2
 refine Yes.eq ?_
 unfold f84
 refine Yes.jn (Q7 true (c103z _ _ _ (by simp) fun a ha=>by rw [List.mem_singleton.1 ha,k1]; omega) (Wp rfl (Wp (decide_eq_false (by omega)) (Wp (beq_eq_false_iff_ne.2 (by omega)) ?_))))
 rw [k1]
 refine Q7 _ (Xn (by omega)) (Q7 true (c103z _ _ _ (by omega) fun a ha=>?_) (Wp rfl (Yes.some rfl)))
 rw [Qj (by omega) (by omega)]
 have:=k3 a ha
 omega
def Hw (rs:List Int):List Z8:=rs.mapIdx fun i r=>⟨i,r,false⟩
theorem Hv (rs:List Int):(Hw rs).length=rs.length:=by simp [Hw]
theorem Dh {rs:List Int} {i:Nat} (h:i < (Hw rs).length) (h':i < rs.length):(Hw rs)[i]=⟨i,rs[i],false⟩:=by simp [Hw]
theorem c109z {H:Nat} (h:1 ≤ H∧H ≤ 12):f103 (H:Int)=some true:=by
 unfold f103
 rw [Ln _ _ _ (by simp) fun a ha=>by rw [List.mem_singleton.1 ha]; omega]
 rfl
theorem c110z {H:Nat} (h:1 ≤ H∧H ≤ 12) {xs:List Int} (hl:xs.length ≤ 1000) (hx:∀ r ∈ xs,0 ≤ r∧r < ((2 ^ H:Nat):Int)):f134 (H:Int) xs=some true:=by
 have hp:=Xp h.2
 refine Yes.eq ?_
 unfold f134
 refine Q7 _ (Xn (by omega)) (Q7 true (Ln _ _ _ (by omega) fun a ha=>?_) (Yes.some rfl))
 rw [Qj (by omega) (by omega)]
 have:=hx a ha
 omega
def B3 (H:Nat) (b:ChainBelt):Prop:=b.Hooks=H∧(1 ≤ b.Cards.length∧b.Cards.length ≤ 12)∧∀ c ∈ b.Cards,(0 ≤ c.Number∧c.Number ≤ 59)∧0 ≤ c.Row∧c.Row < ((2 ^ H:Nat):Int)
theorem c111z {H:Nat} (hH:1 ≤ H∧H ≤ 12) {b:ChainBelt} (h:B3 H b):f68 b=some (⟨b,b.Hooks⟩,0):=by
 obtain ⟨h1,h2,h3⟩:=h
 refine Yes.eq ?_
 unfold f68
 have t1:∀ x y z:Int,x ≤ z→z ≤ y→∀ a ∈ ([z]:List Int),x ≤ a∧a ≤ y:=fun x y z h1 h2 a ha=>by rw [List.mem_singleton.1 ha]; exact ⟨h1,h2⟩
 have h249:∀ c ∈ b.Cards,f133 c (H:Int)=some false:=fun c hc=>by
  have hc:=h3 c hc
  refine Yes.eq ?_
  unfold f133
  refine Yes.bind (Q7 true (Ln _ _ _ (by simp) (t1 _ _ _ (by omega) (by omega))) (Wp rfl (Q7 true (c110z hH (by simp) fun r hr=>?_) (Yes.some (Yes.some rfl)))))
  rw [List.mem_singleton.1 hr]; exact hc.2
 have h191:f104 (H:Int) b.Cards=some true:=by
  refine Yes.eq ?_
  unfold f104
  refine Yes.bind (Bc (decide_eq_true (by omega)) (Q7 _ (c250z b.Cards _ (fun _=>false) (by omega) h249) (Yes.some (Yes.some ?_))))
  simp
 refine Yes.jn (Q7 true (by rw [h1]; exact c109z hH) (Wp rfl (Wp (decide_eq_false (by omega)) (Q7 true (by rw [h1]; exact h191) (Wp rfl (Yes.some rfl))))))
theorem Ah:(2:Nat) ^ 62=4611686018427387904:=by decide
theorem Du {a:Nat} (ha:a < 2 ^ 62):(BitVec.ofInt 64 (a:Int)).toNat=a:=by
 rw [BitVec.ofInt_natCast,BitVec.toNat_ofNat]
 exact Nat.mod_eq_of_lt (by rw [Ah] at ha; omega)
theorem and64z {a b:Nat} (ha:a < 2 ^ 62) (hb:b < 2 ^ 62):Qd .and a b=((a &&& b:Nat):Int):=by
 have hx:a &&& b < 2 ^ 62:=Nat.and_lt_two_pow a hb
 unfold Qd
 simp only [BitVec.toNat_and,Du ha,Du hb]
 rw [Ah] at hx
 exact Qj (by omega) (by omega)
theorem N2 {a h:Nat} (hh:h < 62):W8 (a:Int) (h:Int)=some ((a >>> h:Nat):Int):=by
 unfold W8
 rw [if_neg (by omega),show min (h:Int).toNat 64=h by simp; omega]
 congr 1
 rw [show ((2:Int) ^ h)=((2 ^ h:Nat):Int) by simp,Nat.shiftRight_eq_div_pow]
 generalize 2 ^ h=q
 rw [Int.fdiv_eq_ediv_of_nonneg _ (by omega)]
 exact (Int.natCast_ediv a q).symm
theorem N4 (a:Nat):(((a &&& 1:Nat):Int) == (1:Int))=a.testBit 0:=by
 rw [Bool.eq_iff_iff,Nat.and_one_is_mod]
 simp [Nat.testBit_zero]
 omega
def Px (r k:Int):Bool:=r.toNat.testBit k.toNat
theorem Nf {r k:Int} (hr:0 ≤ r∧r < 4096) (hkz:0 ≤ k∧k < 62):∃ y,W8 r k=some y∧(Qd .and y 1 == (1:Int))=Px r k:=by
 obtain ⟨a,rfl⟩:=Int.eq_ofNat_of_zero_le hr.1
 obtain ⟨h,rfl⟩:=Int.eq_ofNat_of_zero_le hkz.1
 refine ⟨_,N2 (by omega),?_⟩
 have hs:a >>> h < 2 ^ 62:=Nat.lt_of_le_of_lt (Nat.shiftRight_le a _) (by rw [Ah]; omega)
 rw [show (1:Int)=((1:Nat):Int) from rfl,and64z hs (by decide)]
 show (((a >>> h &&& 1:Nat):Int) == (1:Int))=_
 rw [N4,Nat.testBit_shiftRight,Nat.add_zero]
 rfl
def mkz (b:Bool):UInt8:=if b then 120 else 46
def lnz (W:List Int) (r:Int):Str:=⟨W.map fun k=>mkz (Px r k)⟩
def wvz (W:List Int) (rows:List Int):List Str:=rows.map (lnz W)
theorem g53z {H:Nat} {h:TieHarness} {r:Int} (hH:H ≤ 12) (hkz:E2 H h) (hr:0 ≤ r∧r < 4096):f85 ⟨h⟩ r=some (lnz h.Warps r):=by
 obtain ⟨k1,k2,k3⟩:=hkz
 refine Yes.eq ?_
 unfold f85
 refine Yes.bind (Yes.mono (Q':=fun s=>s=h.Warps.map fun k=>mkz (Px r k)) ?_ fun s hs=>?_)
 ·refine Yes.upto h.Warps.length (by omega) (fun i s => s = (h.Warps.take i).map fun k => mkz (Px r k)) rfl (fun i s k hi hI hkz => ?_) (fun s k hI => ?_)
  ·have hl : s.length = i := by rw [hI]; simp; omega
   obtain ⟨y,hy,hyb⟩:=Nf hr (k:=h.Warps[i]) (by have:=k3 _ (List.getElem_mem hi); omega)
   refine Bc (decide_eq_true (by show (i:Int) < (h.Warps.length:Int); omega)) (Yes.bind (Yes.bind (Yes.mono (Q':=fun b=>b=Px r h.Warps[i]) ?_ fun b hb=>Yes.bind (Yes.mono (Q':=fun c=>c=mkz b) ?_ fun c hc=>Yes.bind (Yes.apnd (by rw [hl]; simp; omega) (by rw [hl]; simp; omega) (Yes.some (hkz _ ?_)))))))
   ·unfold f127
    exact Q7 _ (F9 hi) (Q7 _ hy (Yes.some hyb))
   ·unfold f126
    cases b
    ·exact Yes.jn (Wp rfl (Yes.some rfl))
    ·exact Yes.jn (Bc rfl (Yes.some rfl))
   ·rw [hI,Yi hi,List.map_append,hc,hb]; rfl
  ·exact Wp (decide_eq_false (by show ¬ (h.Warps.length:Int) < (h.Warps.length:Int); omega)) (Yes.some (by rw [hI,List.take_length]))
 ·subst hs
  have:Sm (h.Warps.map fun k=>mkz (Px r k))=some (lnz h.Warps r):=by
   unfold Sm
   rw [if_neg fun e=>by have:=congrArg List.length e; rw [List.length_map,List.length_nil] at this; omega]
   rfl
  exact Q7 _ this (Yes.some rfl)
theorem g15z {H:Nat} {h:TieHarness} {d:Design} (hH:1 ≤ H∧H ≤ 12) (hkz:E2 H h) (hd:DOkz H d):f49 h d=some (wvz h.Warps d.Rows,0):=by
 have h12:=hd.2.1
 have hp:=Xp hH.2
 refine Yes.eq ?_
 unfold f49
 refine Yes.jn (Q7 _ (c105z hH hkz) (Wp rfl (Yes.jn (Q7 _ (c102z hH hd) (Wp rfl (Wp ?_ ?_))))))
 ·rw [hd.1,hkz.1]; simp
 ·refine Yes.bind (Yes.mono (Q' := fun s => s = wvz h.Warps d.Rows) ?_ fun s hs => Yes.some (by rw [hs]))
  refine Yes.upto d.Rows.length (by omega) (fun i s=>s=wvz h.Warps (d.Rows.take i)) rfl (fun i s k hi hI hk2=>?_) (fun s k hI=>Wp (decide_eq_false (by omega)) (Yes.some (by rw [hI,List.take_length])))
  have hl:s.length=i:=by rw [hI]; simp [wvz]; omega
  have hr:=hd.2.2 _ (List.getElem_mem hi)
  refine Bc (decide_eq_true (by omega)) (Yes.bind (Q7 _ (F9 hi) (Q7 _ (g53z hH.2 hkz (by omega)) (Yes.bind (Yes.apnd (by rw [hl]; simp; omega) (by rw [hl]; simp; omega) (Yes.some (hk2 _ ?_)))))))
  rw [hI,Yi hi]
  unfold wvz
  rw [List.map_append]
  rfl
def wkz (R : List Int) : Nat → List Nat → List Int
 | _,[]=>[]
 | a,s :: ss=>R.getD a 0 :: wkz R ((a + s) % R.length) ss
def epz (n : Nat) : Nat → List Nat → Nat
 | a,[]=>a
 | a,s :: ss=>epz n ((a + s) % n) ss
theorem Pa {R : List Int} : ∀ {ss : List Nat} {a s : Nat}, wkz R a (ss ++ [s]) = wkz R a ss ++ [R.getD (epz R.length a ss) 0]
 | [],_,_=>rfl
 | t :: ss,a,s=>by rw [List.cons_append,wkz,wkz,epz,Pa]; rfl
theorem Ll {n : Nat} : ∀ {ss : List Nat} {a s : Nat}, epz n a (ss ++ [s]) = (epz n a ss + s) % n
 | [],_,_=>rfl
 | t :: ss,a,s=>by rw [List.cons_append,epz,epz,Ll]
theorem Ay {R : List Int} : ∀ {ss : List Nat} {a : Nat}, (wkz R a ss).length = ss.length
 | [],_=>rfl
 | t :: ss,a=>by rw [wkz,List.length_cons,Ay]; rfl
theorem Np {n : Nat} (hn : 0 < n) : ∀ {ss : List Nat} {a : Nat}, a < n → epz n a ss < n
 | [],_,h=>h
 | t :: ss,a,_=>by rw [epz]; exact Np hn (Nat.mod_lt _ hn)
theorem first (i n m:Nat) (hi:i < max 1 (min n m)):(bif ((i:Int) == (0:Int)) then some (true) else bif (decide ((i:Int) < (n:Int))) then some ((decide ((i:Int) < (m:Int)))) else some (false))=some true:=by
 refine Yes.eq (Yes.cond (fun _=>Yes.some rfl) (fun hc=>?_))
 have h0:¬ (i:Int)=0:=by simpa using hc
 exact K3 (decide_eq_true (by omega)) (Yes.some (decide_eq_true (by omega)))
theorem last (n m:Nat) (hm:1 ≤ m):(bif (((max 1 (min n m):Nat):Int) == (0:Int)) then some (true) else bif (decide (((max 1 (min n m):Nat):Int) < (n:Int))) then some ((decide (((max 1 (min n m):Nat):Int) < (m:Int)))) else some (false))=some false:=by
 refine Yes.eq (T7 (beq_eq_false_iff_ne.2 (by omega)) (Yes.cond (fun hc=>?_) (fun _=>Yes.some rfl)))
 have:=of_decide_eq_true hc
 exact Yes.some (decide_eq_false (by omega))
def hx (x:UInt8):Nat:=2 + x.toNat % 7
theorem P8 (x:UInt8):2 ≤ hx x∧hx x ≤ 8:=by unfold hx; omega
end Go.Proofs.YtepehlhgkipcoaaGreatDoor
