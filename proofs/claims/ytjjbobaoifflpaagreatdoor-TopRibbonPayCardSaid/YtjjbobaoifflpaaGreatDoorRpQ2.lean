/- Laws of plain functions, part 2. -/
import Derived.Test.YtjjbobaoifflpaaGreatDoorRpQ1
set_option maxRecDepth 8000
namespace Go.Proofs.YtjjbobaoifflpaaGreatDoor
open Go.RowKit
open Classical
section
variable {κ ν:Type} [DecidableEq κ]
variable {l:PayList} {ps:List Gf}
theorem s27P (h1 : l.Rates.length ≤ 1000) (h2 : l.Extras.length ≤ 1000) (h : Uo l = 0) (hn : ps.length ≤ 50) (hx : ∀ p ∈ ps, p.Extras.length ≤ 12) :
    Yes (f12 l ps) fun r=>(∃ i,En l ps i∧∃ hi:i < ps.length,r=([],[],(i:Int),J1 l ps[i])) ∨ (∀ j (hj:j < ps.length),J1 l ps[j]=0)∧r=(Qn ps,(Qn ps).map (Kx l ps),0,0):=by
  unfold f12
  refine Yes.jn (Wg _ (s15P l h1 h2) (J4 (by simp [h]) (Yes.jn (J4 (by simp; omega) (Yes.jn ?_)))))
  refine Yes.lp (fun s => ∃ i : Nat, s.2 = i ∧ i ≤ ps.length ∧ (∀ j (hj : j < ps.length), j < i → J1 l ps[j] = 0) ∧ Fy l (ps.take i) s.1) (fun s => ps.length - s.2.toNat)
    ⟨0,rfl,Nat.zero_le _,fun _ _ h=>absurd h (Nat.not_lt_zero _),by simp,fun k=>by simp [Ba,Hn]⟩ (by simp only; omega) ?_
  rintro ⟨m,i'⟩ k ⟨i,hi',hile,hok,hm⟩ hk
  simp only at hi' hm
  subst hi'
  refine Yes.cond (fun hlt=>?_) (fun hlt=>?_)
  · have hi : i < ps.length := by simpa using hlt
    have hxi:=hx _ (List.getElem_mem hi)
    refine Yes.jn (Yes.bind (Yes.idx rfl hi (Wg _ (s55gP (by omega) h2 h1) (Yes.jn ?_))))
    rw [Ih h]
    refine Yes.cond (fun he=>Yes.some (.inl ⟨i,⟨hi,by simpa using he,fun j hj=>hok j (by omega) hj⟩,hi,rfl⟩)) (fun he=>?_)
    have he:J1 l ps[i]=0:=by simpa using he
    have hall:∀ j (hj:j < ps.length),j < i + 1→J1 l ps[j]=0:=fun j hj hji=>by
      rcases Nat.lt_succ_iff_lt_or_eq.1 hji with h | rfl
      · exact hok j hj h
      · exact he
    have g:Pk l (ps.take (i + 1)):=⟨Md h,fun p hp=>by
      obtain ⟨j,hj,rfl⟩:=List.getElem_of_mem hp
      rw [List.length_take] at hj
      rw [List.getElem_take]
      exact ⟨Lg (hall j (by omega) (by omega)),hx _ (List.getElem_mem _)⟩,by rw [List.length_take]; omega⟩
    have hit:i < (ps.take (i + 1)).length:=by rw [List.length_take]; omega
    obtain ⟨o1,o2,o3,o4,o5⟩:=A8 g hit
    simp only [List.getElem_take] at o1 o2 o3 o4 o5
    refine Wg _ (s58P g.lok o1 o2 o3) ?_
    have hb:=Rc g ps[i].Weaver i (by omega)
    rw [List.take_take,Nat.min_eq_left (by omega)] at hb
    have hst:=M4 hi hm
    have e:(Wb m ps[i].Weaver).getD 0=Kx l (ps.take i) ps[i].Weaver:=by
      rw [hm.at_]
      cases hh:Hn (ps.take i) ps[i].Weaver with
      | true=>rfl
      | false=>rw [Cv hh]; rfl
    rw [Qa (n:=(i:Int) + 1) (by omega) (by omega),Qa (n:=(Wb m ps[i].Weaver).getD 0 + _) (by rw [e]; omega) (by rw [e]; omega)]
    exact hk _ ⟨i + 1,by simp,hi,hall,hst⟩ (by simp only; omega)
  · have hi : i = ps.length := by have : ¬ i < ps.length := by simpa using hlt
                                  omega
    subst hi
    rw [List.take_length] at hm
    have g:Pk l ps:=⟨Md h,fun p hp=>by
      obtain ⟨j,hj,rfl⟩:=List.getElem_of_mem hp
      exact ⟨Lg (hok j hj hj),hx _ hp⟩,by omega⟩
    refine Wg _ (Nf g hm) ?_
    have hlw:(Qn ps).length ≤ 51:=by unfold Qn; refine Nat.le_trans (List.length_filter_le _ _) ?_; simp [V0]
    refine Yes.bind (Yes.mono (Q':=fun r=>r=(Qn ps).map (Kx l ps)) ?_ fun r hr=>by rw [hr]; exact Yes.some (.inr ⟨fun j hj=>hok j hj hj,rfl⟩))
    refine Yes.upto (Qn ps).length (by omega) (fun j s=>s=((Qn ps).take j).map (Kx l ps)) rfl (fun j s k2 hj hI hk2=>?_) (fun s k2 hI=>?_)
    · refine Sz (by simp; omega) (Yes.bind (Yes.bind (Yes.idx rfl hj (Yes.bind (Yes.apnd (by simp [hI]; omega) (by simp [hI]; omega) (Yes.some (hk2 _ ?_)))))))
      have hmem:(Qn ps)[j] ∈ Qn ps:=List.getElem_mem hj
      have hw:=(List.mem_filter.1 hmem).2
      rw [List.take_succ_eq_append_getElem hj,List.map_append,hI,hm.at_,hw]; rfl
    · exact J4 (by simp) (Yes.some (by rw [hI,List.take_length]))
end
theorem Be {α β:Type} {Q:β→Prop} {x:Option α} {f:α→Option β} (a:α) (h:x=some a) (k:Yes (f a) Q):Yes (x.bind f) Q:=by rw [h]; exact k
theorem zidx {α:Type} {xs:List α} {i:Nat} (h:i < xs.length):idx xs (i:Int)=some xs[i]:=by unfold idx; rw [if_pos (Int.natCast_nonneg i)]; exact List.getElem?_eq_getElem h
theorem zrem {a b:Int} (ha:0 ≤ a) (hb:0 < b):∃ r,Ha a b=some r∧0 ≤ r∧r < b:=by
 unfold Ha
 rw [if_neg (by omega),Int.tmod_eq_emod_of_nonneg ha]
 exact ⟨_,rfl,Int.emod_nonneg _ (by omega),Int.emod_lt_of_pos _ hb⟩
theorem zw64 {n:Int} (h1:-1000000000000 ≤ n) (h2:n ≤ 1000000000000):w64 n=n:=Qa (by omega) (by omega)
theorem zu8 (c:UInt8):0 ≤ ((c.toNat:Nat):Int)∧((c.toNat:Nat):Int) ≤ 255:=by have:=c.toNat_lt; omega
theorem c19 (l:PayList) (h1:l.Rates.length ≤ 1000) (h2:l.Extras.length ≤ 1000):f13 l=some l:=by
 unfold f13
 exact Yes.eq (Yes.bind (Yes.apnd (by simp; omega) (by simp; omega) (Yes.bind (Yes.apnd (by simp; omega) (by simp; omega) (Yes.some (by simp))))))
theorem Nh (v:Vector UInt8 4):Yes (f6 v) fun l=>Yb l∧l.Extras=[]:=by
 have hv:∀ (q:Nat) (h:q < 4),idx v.toList (q:Int)=some (v.toList[q]'(by simp; omega)):=fun q h=>zidx (by simp; omega)
 unfold f6
 obtain ⟨a,ha,ha0,ha1⟩:=zrem (a:=((v.toList[1]'(by simp)).toNat:Int)) (b:=60) (by omega) (by omega)
 have b0:=zu8 (v.toList[0]'(by simp))
 have b1:=zu8 (v.toList[1]'(by simp))
 have b2:=zu8 (v.toList[2]'(by simp))
 have b3:=zu8 (v.toList[3]'(by simp))
 obtain ⟨b,hb,hb0,hb1⟩:=zrem (a:=w64 ((4:Int) * ((v.toList[1]'(by simp)).toNat:Int))) (b:=1001) (by rw [zw64 (by omega) (by omega)]; omega) (by omega)
 refine Be _ (hv 0 (by omega)) (Be _ (hv 1 (by omega)) (Be _ ha (Be _ (hv 0 (by omega)) (Be _ (hv 2 (by omega)) (Be _ (hv 3 (by omega)) (Be _ (hv 1 (by omega)) (Be _ hb (Yes.some ?_))))))))
 rw [zw64 (n:=1 + a) (by omega) (by omega),zw64 (n:=((v.toList[0]'(by simp)).toNat:Int) + ((v.toList[2]'(by simp)).toNat:Int)) (by omega) (by omega)]
 refine ⟨⟨⟨fun i hi=>?_,fun x hx=>(by cases hx),by simp,Qh.2 ⟨by simp only; omega,by simp only; omega⟩,Qh.2 ⟨by simp only; omega,by simp only; omega⟩⟩,by simp,by simp⟩,rfl⟩
 have hi':i < 2:=hi
 match i,hi' with
 | 0,_=>exact ⟨Qh.2 ⟨by simp,by simp⟩,Qh.2 ⟨by simp only [List.getElem_cons_zero]; omega,by simp only [List.getElem_cons_zero]; omega⟩,fun _=>rfl,fun h=>absurd h (Nat.lt_irrefl _)⟩
 | 1,_=>
  refine ⟨Qh.2 ⟨?_,?_⟩,Qh.2 ⟨?_,?_⟩,fun h=>absurd h (by decide),fun _=>?_⟩ <;> simp only [List.getElem_cons_succ,List.getElem_cons_zero,Nat.sub_self] <;> omega
section
variable {P:PayList}
theorem rng51:V0 51=[0,1,2] ++ (List.range 48).map fun i=>((i + 3:Nat):Int):=by decide
theorem chk_of {p:Gf} (h:Ke P p):J1 P p=0:=by
 obtain ⟨h1,h2,h3,h4,h5,h6⟩:=h
 unfold J1
 rw [if_neg (fun h=>h ⟨h1,h2,h3,h4⟩),if_neg (fun h=>h h5),if_neg (fun h=>h h6)]
end
def tri (f:Int→Int):List Int:=[f 0,f 1,f 2]
theorem Fq {f:Int→Int} {k:Int} (h:0 ≤ k∧k ≤ 2):idx (tri f) k=some (f k):=by
 have:k=0 ∨ k=1 ∨ k=2:=by omega
 rcases this with rfl | rfl | rfl <;> rfl
theorem tri_set {f:Int→Int} {k y:Int} (h:0 ≤ k∧k ≤ 2):(tri f).set k.toNat (f k + y)=tri fun j=>f j + if k=j then y else 0:=by
 have:k=0 ∨ k=1 ∨ k=2:=by omega
 rcases this with rfl | rfl | rfl <;> simp [tri]
theorem Nb {n:Nat} {v:Vector Int n} {k y:Int}:(Fz v k y).toList=v.toList.set k.toNat y:=by
 unfold Fz; simp
end Go.Proofs.YtjjbobaoifflpaaGreatDoor
