/- Plain laws: tables turned, one number again and again. -/
import Derived.Test.YtkfdjkkbnfohjaaGreatDoorRdZ1
set_option maxRecDepth 8000
namespace Go.Proofs.YtkfdjkkbnfohjaaGreatDoor
open Go.RowKit
open Classical

theorem g59 {xs:List (List Int)} (h:xs.length ≤ 1000):f59 xs=some xs.reverse:=by
 refine Yes.eq ?_
 unfold f59
 rw [w64_id (n:=(xs.length:Int) - 1) (by omega) (by omega)]
 refine Yes.lp (fun s => ∃ i : Nat, s.2.1 = i ∧ s.2.2 = (xs.length : Int) - 1 - i ∧ i ≤ xs.length ∧ s.1.length = xs.length ∧ ∀ k (h1 : k < s.1.length) (h2 : k < xs.length), s.1[k] = if k < i ∨ xs.length < k + i + 1 then xs[xs.length - 1 - k]'(by omega) else xs[k]) (fun s => xs.length - s.2.1.toNat)
  ⟨0,rfl,by show (xs.length:Int) - 1=_; omega,by omega,rfl,fun k h1 h2=>by rw [if_neg (by omega)]⟩ (by show xs.length - _ < _; omega) ?_
 rintro ⟨m,a,b⟩ k ⟨i,e1,e2,e3,e4,e5⟩ hk
 simp only at e1 e2 e4 e5
 subst e1; subst e2
 refine Yes.jn (Yes.cond (fun hc=>?_) (fun hc=>Yes.some ?_))
 ·have hc : (i : Int) < (xs.length : Int) - 1 - i := of_decide_eq_true hc
  obtain ⟨q,hq⟩:∃ q:Nat,(xs.length:Int) - 1 - i=q:=⟨xs.length - 1 - i,by omega⟩
  rw [hq]
  have hqm:q < m.length:=by omega
  have him:i < m.length:=by omega
  refine Yes.bind (qbind _ (qidx hqm) (qbind _ (qidx him) (qbind _ (qidx him) (qbind _ (qidx (xs:=m.set (Int.toNat (i:Int)) m[q]) (i:=q) (by rw [List.length_set]; exact hqm)) (Yes.some (hk _ ⟨i + 1,?_,?_,by omega,?_,fun k h1 h2=>?_⟩ ?_))))))
  ·show w64 ((i:Int) + 1)=_; rw [w64_id (by omega) (by omega)]; simp
  ·show w64 ((q:Int) - 1)=_; rw [w64_id (by omega) (by omega)]; omega
  ·show ((m.set _ _).set _ _).length=_; rw [List.length_set,List.length_set]; exact e4
  ·show ((m.set i m[q]).set q m[i])[k] = _
   rw [List.getElem_set]
   by_cases hqk:q=k
   ·subst hqk
    rw [if_pos rfl,e5 i him (by omega),if_neg (by omega),if_pos (by omega)]
    congr 1
    omega
   ·rw [if_neg hqk, List.getElem_set]
    by_cases hik:i=k
    ·subst hik
     rw [if_pos rfl,e5 q hqm (by omega),if_neg (by omega),if_pos (by omega)]
     congr 1
     omega
    ·rw [if_neg hik, e5 k (by omega) h2]
     by_cases hh:k < i ∨ xs.length < k + i + 1
     ·rw [if_pos hh,if_pos (by omega)]
     ·rw [if_neg hh,if_neg (by omega)]
  ·show xs.length - (w64 ((i : Int) + 1)).toNat < xs.length - (i : Int).toNat
   rw [w64_id (by omega) (by omega)]; omega
 ·have hc : ¬ (i : Int) < (xs.length : Int) - 1 - i := of_decide_eq_false hc
  apply List.ext_getElem (by rw [List.length_reverse]; exact e4)
  intro k h1 h2
  have hk2:k < xs.length:=by omega
  rw [List.getElem_reverse,e5 k h1 hk2]
  split
  ·rfl
  ·congr 1; omega
theorem cut_take {xs:List Int} {n:Nat} (h:n ≤ xs.length):cut xs 0 (n:Int)=some (xs.take n):=by unfold cut; rw [if_pos ⟨by omega,by omega,by omega⟩]; simp
theorem cut_drop {xs:List Int} {n:Nat} (h:n ≤ xs.length):cut xs (n:Int) (xs.length:Int)=some (xs.drop n):=by unfold cut; rw [if_pos ⟨by omega,by omega,by omega⟩]; simp
theorem g43 {v:Int} {n:Nat} (h1:1 ≤ n) (h2:n ≤ 1000):f43 [v] (n:Int)=some (List.replicate n v):=by
 refine Yes.eq ?_
 unfold f43
 refine Yes.bind (qskip (decide_eq_false (by omega)) (Yes.some ?_))
 rw [wu_id (n:=(([v]:List Int).length:Int)) (by simp) (by simp),wu_id (n:=(n:Int)) (by omega) (by omega)]
 have hm:mulU (([v]:List Int).length:Int) (n:Int)=some (0,(n:Int)):=by
  unfold mulU
  rw [if_pos ⟨by simp,by simp,by omega,by omega⟩]
  simp only [List.length_singleton]
  congr 2 <;> omega
 refine qbind _ hm (Yes.bind (Yes.bind (qskip rfl (Yes.some (qskip (decide_eq_false (by show ¬ (n:Int) > _; omega)) (Yes.some ?_))))))
 rw [w64_id (n:=(n:Int)) (by omega) (by omega)]
 have hk:mks 8 (0:Int) (n:Int)=some (List.replicate n 0):=by
  unfold mks
  rw [if_pos ⟨by omega,by omega,by omega⟩]
  congr 2
 refine qbind _ hk (Yes.bind (Yes.mono (Q':=fun r=>r=List.replicate n v) ?_ fun r hr=>Yes.some hr))
 refine Yes.lp (fun s=>∃ c:Nat,s.2=c∧1 ≤ c∧c ≤ n∧s.1.length=n∧∀ k,k < c→s.1[k]?=some v) (fun s=>n - s.2.toNat) ⟨1,?_,by omega,h1,?_,fun k hk=>?_⟩ (by show n - _ < _; omega) ?_
 ·show ((min (([v] : List Int)).length (List.replicate n (0 : Int)).length : Nat) : Int) = _
  simp; omega
 ·show (cpy _ 0 _ _).length = n
  unfold cpy; simp; omega
 ·obtain rfl : k = 0 := by omega
  show (cpy _ 0 _ _)[0]?=some v
  unfold cpy
  simp only [Int.toNat_zero,List.take_zero,List.nil_append,List.length_singleton,List.length_replicate]
  rw [show min 1 n=1 by omega]
  rfl
 ·rintro ⟨m, b⟩ k ⟨c, e1, c1, c2, c3, c4⟩ hk
  simp only at e1 c3 c4
  subst e1
  refine Yes.jn (Yes.cond (fun hc=>?_) (fun hc=>Yes.some ?_))
  ·have hc : (c : Int) < (m.length : Int) := of_decide_eq_true hc
   refine qbind _ (cut_drop (by omega)) (qbind _ (cut_take (by omega)) (hk _ ⟨c + min c (n - c),?_,by omega,by omega,?_,fun q hq=>?_⟩ ?_))
   ·show w64 _ = _
    rw [w64_id (by simp; omega) (by simp; omega)]
    simp; omega
   ·show (cpy m (c : Int) _ _).length = n
    unfold cpy; simp; omega
   ·show (cpy m (c : Int) (m.drop c) (m.take c))[q]? = some v
    unfold cpy
    rw [Int.toNat_natCast]
    by_cases hqc:q < c
    ·rw [List.getElem?_append_left (by simp; omega), List.getElem?_take_of_lt hqc]
     exact c4 q hqc
    ·rw [List.getElem?_append_right (by simp; omega), List.getElem?_append_left (by simp; omega), List.getElem?_take_of_lt (by simp; omega), List.getElem?_take_of_lt (by simp; omega)]
     exact c4 _ (by simp; omega)
   ·show n - (w64 _).toNat < n - (c : Int).toNat
    rw [w64_id (by simp; omega) (by simp; omega)]
    simp; omega
  ·have hc : ¬ (c : Int) < (m.length : Int) := of_decide_eq_false hc
   have:c=n:=by omega
   subst this
   refine List.eq_replicate_iff.2 ⟨c3,fun b hb=>?_⟩
   obtain ⟨q,hq,rfl⟩:=List.getElem_of_mem hb
   have:=c4 q (by omega)
   rw [List.getElem?_eq_getElem hq] at this
   exact Option.some.inj this
end Go.Proofs.YtkfdjkkbnfohjaaGreatDoor
/- Plain laws: the fewest faults, pick by pick. -/
set_option maxRecDepth 8000
namespace Go.Proofs.YtkfdjkkbnfohjaaGreatDoor
open Go.RowKit
open Classical

def fa (s:Nat):Nat:=if s=1 then 0 else 1
theorem g39 (s:Nat):f39 (s:Int)=some ((fa s:Nat):Int):=by
 refine Yes.eq ?_
 unfold f39 fa
 refine Yes.jn (Yes.cond (fun hc=>Yes.some ?_) (fun hc=>Yes.some ?_))
 ·have : (s : Int) = 1 := beq_iff_eq.1 hc
  rw [if_pos (by omega)]; rfl
 ·have : ¬ (s : Int) = 1 := by simpa using hc
  rw [if_neg (by omega)]; rfl
def G (R : List Int) : List Int → Nat → Nat
 | [],_=>0
 | c :: cs,a=>if c=R.getD a 0 then min (min (min 1048576 (fa 0 + G R cs ((a + 0) % R.length))) (fa 1 + G R cs ((a + 1) % R.length))) (fa 2 + G R cs ((a + 2) % R.length)) else 1048576
theorem G_le (R : List Int) : ∀ (cs : List Int) (a : Nat), G R cs a ≤ 1048576
 | [],_=>by unfold G; omega
 | c :: cs,a=>by unfold G; split <;> omega
def Gs (R : List Int) (c : Int) (cs : List Int) (a : Nat) : Nat → Nat
 | 0=>1048576
 | s + 1=>if c=R.getD a 0 then min (Gs R c cs a s) (fa s + G R cs ((a + s) % R.length)) else Gs R c cs a s
theorem Gs_3 {R:List Int} {c:Int} {cs:List Int} {a:Nat}:Gs R c cs a 3=G R (c :: cs) a:=by
 unfold G
 by_cases h:c=R.getD a 0
 ·simp only [Gs,if_pos h]
 ·simp only [Gs,if_neg h]
theorem Gs_le {R : List Int} {c : Int} {cs : List Int} {a : Nat} : ∀ s, Gs R c cs a s ≤ 1048576
 | 0=>by simp [Gs]
 | s + 1=>by
  have:=Gs_le (R:=R) (c:=c) (cs:=cs) (a:=a) s
  unfold Gs; split <;> omega
def T (R cs:List Int):List Int:=(List.range R.length).map fun a=>((G R cs a:Nat):Int)
theorem T_len {R cs:List Int}:(T R cs).length=R.length:=by simp [T]
theorem T_at {R cs:List Int} {a:Nat} (h:a < (T R cs).length):(T R cs)[a]=((G R cs a:Nat):Int):=by simp [T]
theorem lift_z {H:Int} {R:List Int} {a:Nat} (ha:a < R.length):f27 ⟨⟨H,crd R⟩,H⟩ (a:Int)=some R[a]:=by
 have hl:a < (crd R).length:=by rw [crd_len]; exact ha
 refine Yes.eq ?_
 unfold f27
 refine Yes.jn (qbind _ (qidx hl) ?_)
 rw [crd_at hl ha]
 exact qskip rfl (qbind _ (qidx hl) (Yes.some (by rw [crd_at hl ha])))
theorem after_z {H:Int} {R:List Int} {a s:Nat} (ha:a < R.length) (hn:R.length ≤ 1000) (hs:s ≤ 2):f28 ⟨⟨H,crd R⟩,H⟩ (a:Int) (s:Int)=some (((a + s) % R.length:Nat):Int):=by
 refine Yes.eq ?_
 unfold f28
 rw [w64_id (n:=(a:Int) + s) (by omega) (by omega)]
 show Yes ((rem64 _ ((crd R).length:Int)).bind _) _
 rw [crd_len]
 refine qbind _ (rem_nn (by omega) (by omega)) (Yes.some ?_)
 norm_cast
theorem weaves_z {H:Int} {R C:List Int} (hC:∀ c ∈ C,0 ≤ c) {p a:Nat} (hp:p < C.length) (ha:a < R.length):f58 ⟨⟨⟨H,crd R⟩,H⟩,C⟩ (p:Int) (a:Int)=some (decide (C[p]=R.getD a 0)):=by
 have h0:=hC _ (List.getElem_mem hp)
 refine Yes.eq ?_
 unfold f58
 refine Yes.bind (qbind _ (qidx hp) (qskip (beq_eq_false_iff_ne.2 (by omega)) (qbind _ (qidx hp) (qbind _ (lift_z ha) (Yes.some (Yes.some ?_))))))
 rw [List.getD_eq_getElem?_getD,List.getElem?_eq_getElem ha]
 rfl
theorem row_z {H : Int} {R C : List Int} (hC : ∀ c ∈ C, 0 ≤ c) (hn : 1 ≤ R.length ∧ R.length ≤ 1000) {p : Nat} (hp : p < C.length) {now : List Int} (hnow : now = T R (C.drop (p + 1))) :
    Yes (lp (σ:=(List Int) × Int) (fun k1738 (m6_1739,s31_1739)=>
          bif (decide (s31_1739 < (((List.replicate R.length (1048576 : Int))).length : Int))) then
            Option.bind (α:=(List Int)) (
              lp (σ:=(List Int) × Int) (fun k1857 (m6_1858,s34_1858)=>
                bif (decide (s34_1858 < (3 : Int))) then
                  Option.bind (α:=(List Int)) (
                    (f58 ⟨⟨⟨H,crd R⟩,H⟩,C⟩ (p:Int) s31_1739).bind fun y1918=>
                    bif y1918 then
                      (idx m6_1858 s31_1739).bind fun y1920=>
                      (f39 s34_1858).bind fun y1923=>
                      (f28 ⟨⟨H,crd R⟩,H⟩ s31_1739 s34_1858).bind fun y1928=>
                      (idx now y1928).bind fun y1929=>
                      (idx m6_1858 s31_1739).bind fun y1932=>
                      some ((List.set m6_1858 (Int.toNat s31_1739) ((min64 y1920 (w64 (y1923 + y1929))))))
                    else
                      some (m6_1858)
                    ) fun m6_1972=>
                  k1857 (m6_1972,(w64 (s34_1858 + (1:Int))))
                else
                  some (m6_1858)
                ) big (m6_1739,(0:Int))
              ) fun m6_1973=>
            k1738 (m6_1973,(w64 (s31_1739 + (1:Int))))
          else
            some (m6_1739)
          ) big (List.replicate R.length (1048576:Int),(0:Int))) (fun m=>m=T R (C.drop p)):=by
  have hd:C.drop p=C[p] :: C.drop (p + 1):=List.drop_eq_getElem_cons hp
  refine Yes.upto R.length (by omega) (fun a m=>m.length=R.length∧∀ k (h:k < m.length),m[k]=if k < a then ((G R (C.drop p) k:Nat):Int) else 1048576) ⟨by simp,fun k h=>by simp⟩ (fun a m k ha hI hk=>?_) (fun m k hI=>qskip (decide_eq_false (by simp)) (Yes.some ?_))
  · obtain ⟨i1, i2⟩ := hI
    refine qtake (decide_eq_true (by simp; omega)) (Yes.bind (Yes.mono (Q':=fun m'=>m'.length=R.length∧∀ k (h:k < m'.length),m'[k]=if k=a then ((Gs R C[p] (C.drop (p + 1)) a 3:Nat):Int) else if k < a then ((G R (C.drop p) k:Nat):Int) else 1048576) ?_ fun m' hm'=>hk _ ⟨hm'.1,fun k h=>?_⟩))
    · refine Yes.upto 3 (by omega) (fun s m' => m'.length = R.length ∧ ∀ k (h : k < m'.length), m'[k] = if k = a then ((Gs R C[p] (C.drop (p + 1)) a s : Nat) : Int) else if k < a then ((G R (C.drop p) k : Nat) : Int) else 1048576) ⟨i1, fun k h => ?_⟩ (fun s m' k2 hs hJ hk2 => ?_) (fun m' k2 hJ => qskip rfl (Yes.some hJ))
      · rw [i2 k h]
        by_cases hka:k=a
        · subst hka; rw [if_neg (by omega),if_pos rfl]; rfl
        · rw [if_neg hka]
      · obtain ⟨j1, j2⟩ := hJ
        have ham:a < m'.length:=by omega
        have haf:(a + s) % R.length < now.length:=by rw [hnow,T_len]; exact Nat.mod_lt _ (by omega)
        refine qtake (decide_eq_true (by omega)) (Yes.bind (qbind _ (weaves_z hC hp ha) (Yes.cond (fun hc=>?_) (fun hc=>Yes.some (hk2 _ ⟨j1,fun k h=>?_⟩)))))
        · have hc : C[p] = R.getD a 0 := of_decide_eq_true hc
          refine qbind _ (qidx ham) (qbind _ (g39 s) (qbind _ (after_z ha hn.2 (by omega)) (qbind _ (qidx haf) (qbind _ (qidx ham) (Yes.some (hk2 _ ⟨?_,fun k h=>?_⟩))))))
          · show (m'.set _ _).length=_; rw [List.length_set]; exact j1
          · show (m'.set a _)[k] = _
            have hh:k < m'.length:=by have h:k < (m'.set a _).length:=h; rw [List.length_set] at h; exact h
            rw [List.getElem_set]
            by_cases hka:a=k
            · subst hka
              have g1:=Gs_le (R:=R) (c:=C[p]) (cs:=C.drop (p + 1)) (a:=a) s
              have g2:=G_le R (C.drop (p + 1)) ((a + s) % R.length)
              have g3:fa s ≤ 1:=by unfold fa; split <;> omega
              have e1:now[(a + s) % R.length]=((G R (C.drop (p + 1)) ((a + s) % R.length):Nat):Int):=by simp only [hnow]; exact T_at _
              rw [if_pos rfl,if_pos rfl,j2 a ham,if_pos rfl,e1,w64_id (by omega) (by omega)]
              show min64 _ _=((Gs R C[p] (C.drop (p + 1)) a (s + 1):Nat):Int)
              rw [show Gs R C[p] (C.drop (p + 1)) a (s + 1)=if C[p]=R.getD a 0 then min (Gs R C[p] (C.drop (p + 1)) a s) (fa s + G R (C.drop (p + 1)) ((a + s) % R.length)) else Gs R C[p] (C.drop (p + 1)) a s from rfl,if_pos hc]
              unfold min64
              omega
            · have : ¬ k = a := fun e => hka e.symm
              rw [if_neg hka,if_neg this,j2 k hh,if_neg this]
        · have hc : ¬ C[p] = R.getD a 0 := of_decide_eq_false hc
          rw [j2 k h]
          by_cases hka:k=a
          · rw [if_pos hka,if_pos hka,show Gs R C[p] (C.drop (p + 1)) a (s + 1)=if C[p]=R.getD a 0 then min (Gs R C[p] (C.drop (p + 1)) a s) (fa s + G R (C.drop (p + 1)) ((a + s) % R.length)) else Gs R C[p] (C.drop (p + 1)) a s from rfl,if_neg hc]
          · rw [if_neg hka,if_neg hka]
    · rw [hm'.2 k h]
      by_cases hka:k=a
      · subst hka; rw [if_pos rfl,if_pos (by omega),Gs_3,hd]
      · rw [if_neg hka]
        by_cases hlt:k < a
        · rw [if_pos hlt,if_pos (by omega)]
        · rw [if_neg hlt,if_neg (by omega)]
  · obtain ⟨i1, i2⟩ := hI
    apply List.ext_getElem (by rw [i1,T_len])
    intro k h1 h2
    rw [i2 k h1,if_pos (by omega),T_at]
end Go.Proofs.YtkfdjkkbnfohjaaGreatDoor
