/- Laws of plain functions, part 1. -/
import Derived.Test.YtkfdjkkbnfohjaaGreatDoorPrtZ1
set_option maxRecDepth 8000
namespace Go.Proofs.YtkfdjkkbnfohjaaGreatDoor
open Go.RowKit
open Classical
theorem pow62:(2:Nat) ^ 62=4611686018427387904:=by decide
theorem ofInt_small {a:Nat} (ha:a < 2 ^ 62):(BitVec.ofInt 64 (a:Int)).toNat=a:=by
 rw [BitVec.ofInt_natCast,BitVec.toNat_ofNat]
 exact Nat.mod_eq_of_lt (by rw [pow62] at ha; omega)
theorem or64 {a b:Nat} (ha:a < 2 ^ 62) (hb:b < 2 ^ 62):bit64 .or a b=((a ||| b:Nat):Int):=by
 have hx:a ||| b < 2 ^ 62:=Nat.or_lt_two_pow ha hb
 unfold bit64
 simp only [BitVec.toNat_or,ofInt_small ha,ofInt_small hb]
 rw [pow62] at hx
 exact w64_id (by omega) (by omega)
theorem and64 {a b:Nat} (ha:a < 2 ^ 62) (hb:b < 2 ^ 62):bit64 .and a b=((a &&& b:Nat):Int):=by
 have hx:a &&& b < 2 ^ 62:=Nat.and_lt_two_pow a hb
 unfold bit64
 simp only [BitVec.toNat_and,ofInt_small ha,ofInt_small hb]
 rw [pow62] at hx
 exact w64_id (by omega) (by omega)
theorem shr_bit {a h:Nat} (hh:h < 62):shr64 (a:Int) (h:Int)=some ((a >>> h:Nat):Int):=by
 unfold shr64
 rw [if_neg (by omega),show min (h:Int).toNat 64=h by simp; omega]
 congr 1
 rw [show ((2:Int) ^ h)=((2 ^ h:Nat):Int) by simp,Nat.shiftRight_eq_div_pow]
 generalize 2 ^ h=q
 rw [Int.fdiv_eq_ediv_of_nonneg _ (by omega)]
 exact (Int.natCast_ediv a q).symm
theorem and_one (a:Nat):(((a &&& 1:Nat):Int) == (1:Int))=a.testBit 0:=by
 rw [Bool.eq_iff_iff,Nat.and_one_is_mod]
 simp [Nat.testBit_zero]
 omega
def bit (r k:Int):Bool:=r.toNat.testBit k.toNat
theorem lift_bit {r k:Int} (hr:0 ≤ r∧r < 4096) (hk:0 ≤ k∧k < 62):∃ y,shr64 r k=some y∧(bit64 .and y 1 == (1:Int))=bit r k:=by
 obtain ⟨a,rfl⟩:=Int.eq_ofNat_of_zero_le hr.1
 obtain ⟨h,rfl⟩:=Int.eq_ofNat_of_zero_le hk.1
 refine ⟨_,shr_bit (by omega),?_⟩
 have hs:a >>> h < 2 ^ 62:=Nat.lt_of_le_of_lt (Nat.shiftRight_le a _) (by rw [pow62]; omega)
 rw [show (1:Int)=((1:Nat):Int) from rfl,and64 hs (by decide)]
 show (((a >>> h &&& 1:Nat):Int) == (1:Int))=_
 rw [and_one,Nat.testBit_shiftRight,Nat.add_zero]
 rfl
def mk (b:Bool):UInt8:=if b then 120 else 46
theorem mk_x (b:Bool):(mk b == (120:UInt8))=b:=by cases b <;> rfl
theorem mk_inj {a b:Bool} (h:mk a=mk b):a=b:=by cases a <;> cases b <;> first | rfl | (revert h; decide)
def ln (W:List Int) (r:Int):Str:=⟨W.map fun k=>mk (bit r k)⟩
def wv (W:List Int) (rows:List Int):List Str:=rows.map (ln W)
theorem g53 {H:Nat} {h:TieHarness} {r:Int} (hH:H ≤ 12) (hk:HOk H h) (hr:0 ≤ r∧r < 4096):f31 ⟨h⟩ r=some (ln h.Warps r):=by
 obtain ⟨k1,k2,k3⟩:=hk
 refine Yes.eq ?_
 unfold f31
 refine Yes.bind (Yes.mono (Q':=fun s=>s=h.Warps.map fun k=>mk (bit r k)) ?_ fun s hs=>?_)
 ·refine Yes.upto h.Warps.length (by omega) (fun i s => s = (h.Warps.take i).map fun k => mk (bit r k)) rfl (fun i s k hi hI hk => ?_) (fun s k hI => ?_)
  ·have hl : s.length = i := by rw [hI]; simp; omega
   obtain ⟨y,hy,hyb⟩:=lift_bit hr (k:=h.Warps[i]) (by have:=k3 _ (List.getElem_mem hi); omega)
   refine qtake (decide_eq_true (by show (i:Int) < (h.Warps.length:Int); omega)) (Yes.bind (Yes.bind (Yes.mono (Q':=fun b=>b=bit r h.Warps[i]) ?_ fun b hb=>Yes.bind (Yes.mono (Q':=fun c=>c=mk b) ?_ fun c hc=>Yes.bind (Yes.apnd (by rw [hl]; simp; omega) (by rw [hl]; simp; omega) (Yes.some (hk _ ?_)))))))
   ·unfold f52
    exact qbind _ (qidx hi) (qbind _ hy (Yes.some hyb))
   ·unfold f51
    cases b
    ·exact Yes.jn (qskip rfl (Yes.some rfl))
    ·exact Yes.jn (qtake rfl (Yes.some rfl))
   ·rw [hI,take_succ hi,List.map_append,hc,hb]; rfl
  ·exact qskip (decide_eq_false (by show ¬ (h.Warps.length:Int) < (h.Warps.length:Int); omega)) (Yes.some (by rw [hI,List.take_length]))
 ·subst hs
  have:sbstr (h.Warps.map fun k=>mk (bit r k))=some (ln h.Warps r):=by
   unfold sbstr
   rw [if_neg fun e=>by have:=congrArg List.length e; rw [List.length_map,List.length_nil] at this; omega]
   rfl
  exact qbind _ this (Yes.some rfl)
theorem g15 {H:Nat} {h:TieHarness} {d:Design} (hH:1 ≤ H∧H ≤ 12) (hk:HOk H h) (hd:DOk H d):f14 h d=some (wv h.Warps d.Rows,0):=by
 have h12:=hd.2.1
 have hp:=pow_rng hH.2
 refine Yes.eq ?_
 unfold f14
 refine Yes.jn (qbind _ (c105 hH hk) (qskip rfl (Yes.jn (qbind _ (c102 hH hd) (qskip rfl (qskip ?_ ?_))))))
 ·rw [hd.1,hk.1]; simp
 ·refine Yes.bind (Yes.mono (Q' := fun s => s = wv h.Warps d.Rows) ?_ fun s hs => Yes.some (by rw [hs]))
  refine Yes.upto d.Rows.length (by omega) (fun i s=>s=wv h.Warps (d.Rows.take i)) rfl (fun i s k hi hI hk2=>?_) (fun s k hI=>qskip (decide_eq_false (by omega)) (Yes.some (by rw [hI,List.take_length])))
  have hl:s.length=i:=by rw [hI]; simp [wv]; omega
  have hr:=hd.2.2 _ (List.getElem_mem hi)
  refine qtake (decide_eq_true (by omega)) (Yes.bind (qbind _ (qidx hi) (qbind _ (g53 hH.2 hk (by omega)) (Yes.bind (Yes.apnd (by rw [hl]; simp; omega) (by rw [hl]; simp; omega) (Yes.some (hk2 _ ?_)))))))
  rw [hI,take_succ hi]
  unfold wv
  rw [List.map_append]
  rfl
theorem c125 (xs:List Str) (φ:Str→Option Bool) (p:Str→Bool) (hl:xs.length < 9223372036854775807) (h:∀ a ∈ xs,φ a=some (p a)):f73 xs φ=some (xs.any p):=
 Yes.eq (Yes.bind (Yes.mono (index_is xs φ p hl h) fun _ hr=>Yes.some (index_any hr)))
theorem set_xo:(f85 ⟨[120,46]⟩).map (fun r=>(r.2,f92 r.1 120,f92 r.1 46))=some (true,some true,some true):=by kernel_rfl
theorem cut_end {α:Type} {xs:List α} {n:Nat} (h:n ≤ xs.length):cut xs 0 (n:Int)=some (xs.take n):=by unfold cut; rw [if_pos ⟨by omega,by omega,by omega⟩]; simp
theorem g124 {s:Str} (hl:s.b.length ≤ 1000) (hs:∀ c ∈ s.b,c=120 ∨ c=46):f72 s ⟨[120,46]⟩=some ⟨[]⟩:=by
 refine Yes.eq ?_
 obtain ⟨⟨aset,ok⟩,ha,he⟩:=Option.map_eq_some_iff.1 set_xo
 simp only [Prod.mk.injEq] at he
 obtain ⟨rfl,hx,ho⟩:=he
 have hc:∀ c,c=120 ∨ c=46→f92 aset c=some true:=fun c h=>by rcases h with rfl | rfl <;> assumption
 unfold f72
 by_cases h0:s.b=[]
 ·have : s = ⟨[]⟩ := by cases s; simp only at h0; rw [h0]
  subst this
  exact Yes.jn (Yes.bind (qtake rfl (Yes.some (qtake rfl (Yes.some rfl)))))
 refine Yes.jn (Yes.bind (qskip (by simpa using h0) (Yes.some (qskip rfl (Yes.jn (Yes.bind (qskip rfl (Yes.some (qskip rfl (Yes.jn (qbind _ ha (qtake rfl ?_)))))))))))) 
 refine Yes.bind (Yes.mono (Q':=fun r=>r=⟨[]⟩) ?_ fun r hr=>Yes.bind (Yes.mono (Q':=fun r=>r=⟨[]⟩) ?_ fun r hr=>Yes.some hr))
 ·unfold f87
  refine Yes.bind (Yes.lp (fun t=>t.b.length ≤ 1000∧∀ c ∈ t.b,c=120 ∨ c=46) (fun t=>t.b.length) ⟨hl,hs⟩ (by omega) ?_)
  rintro t k ⟨t1,t2⟩ hk
  refine Yes.jn (Yes.cond (fun hc2=>?_) (fun hc2=>Yes.some (Yes.some ?_)))
  ·have hpos : (t.b.length : Int) > 0 := of_decide_eq_true hc2
   have e:w64 ((t.b.length:Int) - 1)=((t.b.length - 1:Nat):Int):=by rw [w64_id (by omega) (by omega)]; omega
   rw [e]
   have hlt:t.b.length - 1 < t.b.length:=by omega
   refine Yes.jn (qbind _ (qidx hlt) (qbind true (hc _ (t2 _ (List.getElem_mem hlt))) (qskip rfl (qbind _ (cut_end (by omega)) (hk _ ⟨?_,fun c hc=>t2 c (List.mem_of_mem_take hc)⟩ ?_)))))
   ·show (t.b.take _).length ≤ _; simp; omega
   ·show (t.b.take _).length < _; simp; omega
  ·have : ¬ (t.b.length : Int) > 0 := of_decide_eq_false hc2
   have h1:t.b=[]:=List.eq_nil_of_length_eq_zero (by omega)
   cases t; simp only at h1; rw [h1]
 ·subst hr
  unfold f86
  refine Yes.bind (Yes.lp (fun t=>t=⟨[]⟩) (fun _=>0) rfl (by omega) ?_)
  rintro t k rfl _
  exact Yes.jn (qskip rfl (Yes.some (Yes.some rfl)))
theorem ln_b {W:List Int} {r:Int}:∀ c ∈ (ln W r).b,c=120 ∨ c=46:=fun c hc=>by
 obtain ⟨k,_,rfl⟩:=List.mem_map.1 hc
 unfold mk
 split
 ·exact .inl rfl
 ·exact .inr rfl
theorem ln_len {W:List Int} {r:Int}:(ln W r).b.length=W.length:=by simp [ln]
theorem g103 {W rows:List Int} (hw:1 ≤ W.length∧W.length ≤ 96) (hr:1 ≤ rows.length∧rows.length ≤ 30):f54 (wv W rows) (W.length:Int)=some 0:=by
 have hl:(wv W rows).length=rows.length:=by simp [wv]
 refine Yes.eq ?_
 unfold f54
 refine Yes.jn (qskip (decide_eq_false (by rw [hl]; omega)) (qskip (beq_eq_false_iff_ne.2 (by rw [hl]; omega)) (Yes.bind (qbind true (c184 _ _ _ (by simp) fun a ha=>by rw [List.mem_singleton.1 ha]; omega) (qskip rfl (qbind false ?_ (Yes.some (qskip rfl (Yes.some rfl)))))))))
 rw [c125 (wv W rows) _ (fun _=>false) (by rw [hl]; omega) fun s hs=>?_]
 ·simp
 ·obtain ⟨r, _, rfl⟩ := List.mem_map.1 hs
  refine Yes.eq ?_
  unfold f71
  refine Yes.bind (qskip (by rw [ln_len]; simp) (qbind _ (g124 (by rw [ln_len]; omega) ln_b) (Yes.some (Yes.some rfl))))
section
variable {κ β:Type} [DecidableEq κ] [DecidableEq β]
def bl (rows:List Int) (k:Int):List Bool:=rows.map fun r=>bit r k
end
theorem bl_at {rows:List Int} {k k':Int} (h:bl rows k=bl rows k') {p:Nat} (hp:p < rows.length):bit rows[p] k=bit rows[p] k':=by
 have h1:(bl rows k)[p]'(by simp [bl]; exact hp)=(bl rows k')[p]'(by simp [bl]; exact hp):=by simp only [h]
 simpa [bl] using h1
theorem g55r {N : Nat} (hN : N ≤ 13) {V W : List Int} {r : Int} (hl : V.length = W.length) (hw : W.length ≤ 96) (hV : ∀ a ∈ V, 0 ≤ a ∧ a ≤ (N : Int) - 1) (hc : ∀ w w' (h1 : w < V.length) (h2 : w' < V.length) (h3 : w < W.length) (h4 : w' < W.length), V[w] = V[w'] → bit r W[w] = bit r W[w']) :
    Yes (lp (σ:=Int × Int) (fun k189 (s8_190,s25_190)=>
              bif (decide (s25_190 < ((V).length : Int))) then
                Option.bind (α:=Int) (
                  (idx V s25_190).bind fun y198=>
                  (idx (ln W r).b s25_190).bind fun y201=>
                  bif (y201 == (120 : UInt8)) then
                    (shl64 (1:Int) y198).bind fun y203=>
                    some ((bit64 .or s8_190 y203))
                  else
                    some (s8_190)
                  ) fun s8_204=>
                k189 (s8_204,(w64 (s25_190 + (1:Int))))
              else
                some (s8_190)
              ) big ((0:Int),(0:Int))) (fun a=>0 ≤ a∧a < ((2 ^ N:Nat):Int)∧∀ w (h1:w < V.length) (h3:w < W.length),bit a V[w]=bit r W[w]):=by
  have hp:1 ≤ 2 ^ N∧2 ^ N ≤ 8192:=⟨Nat.one_le_two_pow,Nat.pow_le_pow_right (n:=2) (by omega) hN⟩
  refine Yes.upto V.length (by omega) (fun i s => ∃ a : Nat, s = a ∧ a < 2 ^ N ∧ ∀ j : Nat, a.testBit j = true ↔ ∃ w, w < i ∧ ∃ (h1 : w < V.length) (h3 : w < W.length), V[w] = (j : Int) ∧ bit r W[w] = true)
    ⟨0,rfl,by omega,fun j=>by simp⟩ (fun i s k hi hI hk=>?_) (fun s k hI=>?_)
  · obtain ⟨a, rfl, ha, hb⟩ := hI
    have hiW:i < W.length:=by omega
    have hib:i < (ln W r).b.length:=by rw [ln_len]; exact hiW
    have hbyte:(ln W r).b[i]=mk (bit r W[i]):=by simp [ln]
    have hv:=hV _ (List.getElem_mem hi)
    obtain ⟨q,hq⟩:=Int.eq_ofNat_of_zero_le hv.1
    have hqN:q < N:=by omega
    refine qtake (decide_eq_true (by omega)) (Yes.bind (qbind _ (qidx hi) (qbind _ (qidx hib) ?_)))
    rw [hbyte,mk_x]
    refine Yes.cond (fun ht=>?_) (fun hf=>Yes.some (hk _ ⟨a,rfl,ha,fun j=>?_⟩))
    · rw [hq]
      refine qbind _ (shl_small (by omega)) (Yes.some (hk _ ?_))
      have h2q:2 ^ q < 2 ^ N:=Nat.pow_lt_pow_right (by decide) hqN
      have p62:=pow62
      refine ⟨a ||| 2 ^ q,or64 (by omega) (by omega),Nat.or_lt_two_pow ha h2q,fun j=>?_⟩
      rw [Nat.testBit_or,Nat.testBit_two_pow,Bool.or_eq_true,hb]
      constructor
      · rintro (⟨w, h, h1, h3, h4⟩ | h)
        · exact ⟨w,by omega,h1,h3,h4⟩
        · have h : q = j := by simpa using h
          exact ⟨i,by omega,hi,hiW,by rw [hq,h],ht⟩
      · rintro ⟨w, h, h1, h3, h4, h5⟩
        rcases (by omega:w < i ∨ w=i) with h | rfl
        · exact .inl ⟨w,h,h1,h3,h4,h5⟩
        · rw [hq] at h4
          exact .inr (by simp; exact Int.ofNat.inj h4)
    · rw [hb]
      constructor
      · rintro ⟨w,h,h1,h3,h4⟩; exact ⟨w,by omega,h1,h3,h4⟩
      · rintro ⟨w, h, h1, h3, h4, h5⟩
        rcases (by omega:w < i ∨ w=i) with h | rfl
        · exact ⟨w,h,h1,h3,h4,h5⟩
        · rw [hf] at h5; cases h5
  · obtain ⟨a, rfl, ha, hb⟩ := hI
    refine qskip (decide_eq_false (by omega)) (Yes.some ⟨by omega,by omega,fun w h1 h3=>?_⟩)
    have hv:=hV _ (List.getElem_mem h1)
    obtain ⟨q,hq⟩:=Int.eq_ofNat_of_zero_le hv.1
    have e:bit (a:Int) V[w]=a.testBit q:=by rw [hq]; rfl
    rw [e,Bool.eq_iff_iff,hb]
    constructor
    · rintro ⟨w', _, h4, h5, h6, h7⟩
      rw [← hc w' w h4 h1 h5 h3 (by rw [h6,hq])]; exact h7
    · intro h; exact ⟨w,h1,h1,h3,by rw [hq],h⟩
structure Dsg (N : Nat) (W rows : List Int) (h : TieHarness) (D : Design) : Prop where
 hooks:D.Hooks=h.Hooks
 len:D.Rows.length=rows.length
 row:∀ p (h1:p < D.Rows.length) (h2:p < rows.length),(0 ≤ D.Rows[p]∧D.Rows[p] < ((2 ^ N:Nat):Int))∧∀ w (h3:w < h.Warps.length) (h4:w < W.length),bit D.Rows[p] h.Warps[w]=bit rows[p] W[w]
theorem g55 {N : Nat} (hN : N ≤ 13) {W rows : List Int} {h : TieHarness} (hl : h.Warps.length = W.length) (hw : W.length ≤ 96) (hr : rows.length ≤ 30) (hV : ∀ a ∈ h.Warps, 0 ≤ a ∧ a ≤ (N : Int) - 1)
  (hc:∀ w w' (h1:w < h.Warps.length) (h2:w' < h.Warps.length) (h3:w < W.length) (h4:w' < W.length),h.Warps[w]=h.Warps[w']→bl rows W[w]=bl rows W[w']):Yes (f34 ⟨h⟩ (wv W rows)) (Dsg N W rows h):=by
 have hwl:(wv W rows).length=rows.length:=by simp [wv]
 unfold f34
 refine Yes.bind (Yes.mono (Q':=Dsg N W rows h) ?_ fun D hD=>Yes.some hD)
 refine Yes.upto rows.length (by omega) (fun i D => D.Hooks = h.Hooks ∧ D.Rows.length = i ∧ ∀ p (h1 : p < D.Rows.length) (h2 : p < rows.length), (0 ≤ D.Rows[p] ∧ D.Rows[p] < ((2 ^ N : Nat) : Int)) ∧ ∀ w (h3 : w < h.Warps.length) (h4 : w < W.length), bit D.Rows[p] h.Warps[w] = bit rows[p] W[w])
  ⟨rfl,rfl,fun p h1=>absurd h1 (Nat.not_lt_zero _)⟩ (fun i D k hi hI hk=>?_) (fun D k hI=>qskip (decide_eq_false (by rw [hwl]; omega)) (Yes.some ⟨hI.1,hI.2.1,hI.2.2⟩))
 obtain ⟨i1,i2,i3⟩:=hI
 have hi2:i < (wv W rows).length:=by omega
 have e1:(wv W rows)[i]=ln W rows[i]:=by simp [wv]
 refine qtake (decide_eq_true (by rw [hwl]; omega)) (Yes.bind (qbind _ (qidx hi2) ?_))
 rw [e1]
 refine Yes.bind ((g55r hN hl hw hV (r:=rows[i]) fun w w' h1 h2 h3 h4 e=>bl_at (hc w w' h1 h2 h3 h4 e) hi).mono fun a ha=>Yes.bind (Yes.apnd (by rw [i2]; simp; omega) (by rw [i2]; simp; omega) (Yes.some (hk _ ⟨i1,by show (D.Rows ++ [a]).length=_; rw [List.length_append,i2]; rfl,fun p h1 h2=>?_⟩))))
 have h1:p < (D.Rows ++ [a]).length:=h1
 show (0 ≤ (D.Rows ++ [a])[p]∧(D.Rows ++ [a])[p] < _)∧∀ w (h3:w < h.Warps.length) (h4:w < W.length),bit (D.Rows ++ [a])[p] h.Warps[w]=bit rows[p] W[w]
 by_cases hpi:p < D.Rows.length
 ·rw [List.getElem_append_left hpi]; exact i3 p hpi h2
 ·have : p = i := by rw [List.length_append] at h1; simp at h1; omega
  subst this
  have e:(D.Rows ++ [a])[p]=a:=by rw [List.getElem_append_right (by omega)]; simp
  rw [e]
  exact ⟨⟨ha.1,ha.2.1⟩,fun w h3 h4=>ha.2.2 w h3 h4⟩
theorem mget_mset {κ ν : Type} [DecidableEq κ] (k : κ) (v : ν) (k' : κ) : ∀ m : List (κ × ν), mget (mset m k v) k' = if k' = k then some v else mget m k'
 | []=>by
  unfold mset mget
  by_cases h:k'=k
  ·subst h; simp
  ·have : ¬ k = k' := fun e => h e.symm
   simp [h,this]
 | p :: m=>by
  have ih:=mget_mset k v k' m
  unfold mset
  by_cases hp:p.1=k
  ·rw [if_pos hp]
   by_cases h:k'=k
   ·subst h; unfold mget; simp
   ·have h1 : ¬ k = k' := fun e => h e.symm
    have h2:¬ p.1=k':=fun e=>h (e ▸ hp ▸ rfl)
    rw [if_neg h]; unfold mget; simp [h1,h2]
  ·rw [if_neg hp]
   by_cases h2:p.1=k'
   ·have h : ¬ k' = k := fun e => hp (h2.trans e)
    rw [if_neg h]; unfold mget; simp [h2]
   ·unfold mget at ih ⊢
    rw [List.find?_cons_of_neg (by simp [h2]),List.find?_cons_of_neg (by simp [h2])]
    exact ih
def Fst (W:List Int) (m:List (Int × Int)):Prop:=∀ w (h:w < W.length),∃ f:Nat,mget m W[w]=some (f:Int)∧f ≤ w∧∃ hf:f < W.length,W[f]=W[w]
theorem g113 {h:TieHarness} (hl:h.Warps.length ≤ 96):Yes (f55 ⟨h⟩) (Fst h.Warps):=by
 unfold f55 f57
 refine Yes.bind (Yes.bind (Yes.mono (Q':=Fst h.Warps) ?_ fun m hm=>Yes.some (Yes.some hm)))
 unfold f74
 rw [w64_id (n:=(h.Warps.length:Int) - 1) (by omega) (by omega)]
 refine Yes.lp (fun s => -1 ≤ s.2 ∧ s.2 < (h.Warps.length : Int) ∧ ∀ w (hw : w < h.Warps.length), s.2 < (w : Int) → ∃ f : Nat, mget s.1 h.Warps[w] = some (f : Int) ∧ f ≤ w ∧ ∃ hf : f < h.Warps.length, h.Warps[f] = h.Warps[w]) (fun s => (s.2 + 1).toNat)
  ⟨by show (-1:Int) ≤ (h.Warps.length:Int) - 1; omega,by show (h.Warps.length:Int) - 1 < _; omega,fun w hw hlt=>by have hlt:(h.Warps.length:Int) - 1 < (w:Int):=hlt; omega⟩ (by show ((h.Warps.length:Int) - 1 + 1).toNat < _; omega) ?_
 rintro ⟨m,i⟩ k ⟨h1,h2,h3⟩ hk
 simp only at h1 h2 h3
 refine Yes.jn (Yes.cond (fun hc=>?_) (fun hc=>Yes.some fun w hw=>h3 w hw ?_))
 ·have hc : i ≥ 0 := of_decide_eq_true hc
  obtain ⟨n,rfl⟩:=Int.eq_ofNat_of_zero_le hc
  have hn:n < h.Warps.length:=by omega
  refine Yes.jn (qbind _ (qidx hn) (Yes.bind (Yes.some (qskip rfl (hk _ ⟨?_,?_,fun w hw hlt=>?_⟩ ?_)))))
  ·show -1 ≤ w64 ((n:Int) - 1); rw [w64_id (by omega) (by omega)]; omega
  ·show w64 ((n:Int) - 1) < _; rw [w64_id (by omega) (by omega)]; omega
  ·have hlt : w64 ((n : Int) - 1) < (w : Int) := hlt
   rw [w64_id (by omega) (by omega)] at hlt
   show ∃ f:Nat,mget (mset m h.Warps[n] (n:Int)) h.Warps[w]=some (f:Int)∧_
   rw [mget_mset]
   by_cases he:h.Warps[w]=h.Warps[n]
   ·rw [if_pos he]; exact ⟨n,rfl,by omega,hn,he.symm⟩
   ·rw [if_neg he]
    refine h3 w hw ?_
    rcases (by omega:(n:Int) < w ∨ n=w) with h | rfl
    ·exact h
    ·exact absurd rfl he
  ·show (w64 ((n : Int) - 1) + 1).toNat < ((n : Int) + 1).toNat
   rw [w64_id (by omega) (by omega)]; omega
 ·have : ¬ i ≥ 0 := of_decide_eq_false hc
  omega
theorem g67 {H : Nat} {h : TieHarness} {E rows : List Int} (hk : HOk H h) (hE : E.length = h.Warps.length) (hr : rows.length ≤ 30) :
  Yes (f33 ⟨h⟩ (wv E rows)) (fun r => (r.2.2.2 = true ∧ ∃ p w f : Nat, r.1 = p ∧ r.2.1 = w ∧ r.2.2.1 = f ∧ f < w ∧ ∃ (_hp : p < rows.length) (h1 : w < h.Warps.length) (h2 : f < h.Warps.length) (h3 : w < E.length) (h4 : f < E.length), h.Warps[f] = h.Warps[w] ∧ E[w] ≠ E[f]) ∨
   (r.2.2.2=false∧∀ w w' (h1:w < h.Warps.length) (h2:w' < h.Warps.length) (h3:w < E.length) (h4:w' < E.length),h.Warps[w]=h.Warps[w']→bl rows E[w]=bl rows E[w'])):=by
 have h2:=hk.2.1
 have hwl:(wv E rows).length=rows.length:=by simp [wv]
 unfold f33
 refine Yes.bind ((g113 h2.2).mono fun m hm=>Yes.jn ?_)
 refine Yes.lp (fun i => ∃ n : Nat, i = n ∧ n ≤ rows.length ∧ ∀ p (hp : p < rows.length), p < n → ∀ w (h1 : w < h.Warps.length) (h3 : w < E.length) (f : Nat), mget m h.Warps[w] = some (f : Int) → ∀ h4 : f < E.length, bit rows[p] E[w] = bit rows[p] E[f]) (fun i => rows.length + 1 - i.toNat)
  ⟨0,rfl,by omega,fun p hp h=>absurd h (Nat.not_lt_zero _)⟩ (by show rows.length + 1 - _ < _; omega) ?_
 rintro _ k ⟨p,rfl,hp,hI⟩ hk2
 refine Yes.cond (fun hc=>?_) (fun hc=>Yes.some (.inr ⟨rfl,fun w w' a1 a2 a3 a4 he=>?_⟩))
 ·have hc : (p : Int) < ((wv E rows).length : Int) := of_decide_eq_true hc
  have hpl:p < rows.length:=by omega
  have hp2:p < (wv E rows).length:=by omega
  have e1:(wv E rows)[p]=ln E rows[p]:=by simp [wv]
  refine Yes.jn (qbind _ (qidx hp2) ?_)
  rw [e1]
  refine Yes.lp (fun i => ∃ n : Nat, i = n ∧ n ≤ h.Warps.length ∧ ∀ w (h1 : w < h.Warps.length) (h3 : w < E.length), w < n → ∀ f : Nat, mget m h.Warps[w] = some (f : Int) → ∀ h4 : f < E.length, bit rows[p] E[w] = bit rows[p] E[f]) (fun i => h.Warps.length + 1 - i.toNat)
   ⟨0,rfl,by omega,fun w h1 h3 h=>absurd h (Nat.not_lt_zero _)⟩ (by show h.Warps.length + 1 - _ < _; omega) ?_
  rintro _ k3 ⟨w,rfl,hw,hJ⟩ hk3
  refine Yes.cond (fun hc2=>?_) (fun hc2=>hk2 _ ⟨p + 1,?_,by omega,fun q hq hlt=>?_⟩ ?_)
  ·have hc2 : (w : Int) < (h.Warps.length : Int) := of_decide_eq_true hc2
   have hwW:w < h.Warps.length:=by omega
   have hwE:w < E.length:=by omega
   obtain ⟨f,f1,f2,f3,f4⟩:=hm w hwW
   have hfE:f < E.length:=by omega
   have hwb:w < (ln E rows[p]).b.length:=by rw [ln_len]; exact hwE
   have hfb:f < (ln E rows[p]).b.length:=by rw [ln_len]; exact hfE
   have b1:(ln E rows[p]).b[w]=mk (bit rows[p] E[w]):=by simp [ln]
   have b2:(ln E rows[p]).b[f]=mk (bit rows[p] E[f]):=by simp [ln]
   refine Yes.jn (qbind _ (qidx hwW) (qbind _ (qidx hwb) ?_))
   rw [f1]
   refine qbind _ (qidx hfb) ?_
   rw [b1,b2]
   refine Yes.cond (fun hne=>Yes.some (.inl ⟨rfl,p,w,f,rfl,rfl,rfl,?_,hpl,hwW,f3,hwE,hfE,f4,fun e=>?_⟩)) (fun heq=>hk3 _ ⟨w + 1,?_,by omega,fun w2 a1 a3 hlt g hg a4=>?_⟩ ?_)
   ·rcases (by omega : f < w ∨ f = w) with h | rfl
    ·exact h
    ·simp at hne
   ·rw [e] at hne; simp at hne
   ·rw [w64_id (by omega) (by omega)]; simp
   ·rcases (by omega : w2 < w ∨ w2 = w) with h | rfl
    ·exact hJ w2 a1 a3 h g hg a4
    ·rw [f1] at hg
     have:f=g:=by have:=Option.some.inj hg; omega
     subst this
     exact mk_inj (by simpa using heq)
   ·rw [w64_id (by omega) (by omega)]; omega
  ·rw [w64_id (by omega) (by omega)]; simp
  ·intro w2 a1 a3 g hg a4
   have hc2:¬ (w:Int) < (h.Warps.length:Int):=of_decide_eq_false hc2
   rcases (by omega:q < p ∨ q=p) with h | rfl
   ·exact hI q hq h w2 a1 a3 g hg a4
   ·exact hJ w2 a1 a3 (by omega) g hg a4
  ·rw [w64_id (by omega) (by omega)]; omega
 ·have hc : ¬ (p : Int) < ((wv E rows).length : Int) := of_decide_eq_false hc
  obtain ⟨f,f1,f2,f3,f4⟩:=hm w a1
  have f1':mget m h.Warps[w']=some (f:Int):=by rw [← he]; exact f1
  unfold bl
  apply List.ext_getElem (by simp)
  intro q q1 q2
  have hq:q < rows.length:=by simpa using q1
  rw [List.getElem_map,List.getElem_map,hI q hq (by omega) w a1 a3 f f1 (by omega),hI q hq (by omega) w' a2 a4 f f1' (by omega)]
theorem c19 {xs:List Str} (h:xs.length ≤ 1000):f17 xs=some xs:=by
 refine Yes.eq ?_
 unfold f17
 exact Yes.bind (Yes.apnd (by simp; omega) (by simp; omega) (Yes.some rfl))
theorem g66 {H:Nat} {h:TieHarness} {E rows:List Int} (hH:1 ≤ H∧H ≤ 12) (hk:HOk H h) (hE:E.length=h.Warps.length) (hr:1 ≤ rows.length∧rows.length ≤ 30):f32 h (wv E rows)=some 0:=by
 have h2:=hk.2.1
 refine Yes.eq ?_
 unfold f32
 refine Yes.jn (qbind _ (c105 hH hk) (qskip rfl ?_))
 rw [← hE]
 exact qbind _ (g103 (by omega) hr) (Yes.some rfl)
end Go.Proofs.YtkfdjkkbnfohjaaGreatDoor
