/- TopRibbonYards: the logs; the law. -/
import Derived.Test.YtbelgnbjkciafaaGreatDoorRbF
set_option maxRecDepth 8000
namespace Go.Proofs.YtbelgnbjkciafaaGreatDoor
open Go.RowKit
open Classical
theorem and1 (n:Int):bit64 .and n 1=0 ∨ bit64 .and n 1=1:=by
 have h:bit64 .and n 1=w64 (((BitVec.ofInt 64 n &&& BitVec.ofInt 64 1).toNat:Nat):Int):=rfl
 rw [h,BitVec.toNat_and,show (BitVec.ofInt 64 1).toNat=1 from rfl,Nat.and_one_is_mod]
 rcases Nat.mod_two_eq_zero_or_one (BitVec.ofInt 64 n).toNat with e | e <;> rw [e]
 ·exact .inl rfl
 ·exact .inr rfl
theorem wu_pos {n:Int} (h:0 ≤ n∧n ≤ 100):wu64 n=n:=wu64_id (by omega) (by omega)
def Parts2 (x:List BookCloth) (z:List BookCloth × List BookCloth):Prop:=z.1.Sublist x∧z.2.Sublist x∧z.1.length + z.2.length=x.length∧(∀ c,c ∈ x ↔ c ∈ z.2 ++ z.1)∧∀ c ∈ z.2,∀ d ∈ z.1,c.Day ≠ d.Day
theorem sub_snoc {α:Type} {a b:List α} (h:a.Sublist b) (c:α):(a ++ [c]).Sublist (b ++ [c]):=h.append (List.Sublist.refl _)
theorem sub_skip {α:Type} {a b:List α} (h:a.Sublist b) (c:α):a.Sublist (b ++ [c]):=h.trans (List.sublist_append_left _ _)
theorem s7h {y:List BookCloth} (hy:LgOk y) (w:UInt16):Yes (f7h y w) (Parts2 y):=by
 have hy12:=hy.1
 unfold f7h
 refine Yes.upto y.length (by omega) (fun i z=>Parts2 (y.take i) z) ⟨by simp,by simp,by simp,by simp,by simp⟩ (fun i z k hi hI hk=>?_) (fun z k hI=>?_)
 ·obtain ⟨h1, h2, h3, h4, h5⟩ := hI
  rw [List.length_take] at h3
  have hsh:shr64 (w.toNat:Int) (wu64 (i:Int))=some ((w.toNat:Int).fdiv (2 ^ (min (i:Int).toNat 64))):=by
   rw [wu_pos (by omega)]; unfold shr64; rw [if_neg (by omega)]
  have hlt:∀ d ∈ y.take i,d.Day < (y[i]).Day:=fun d hd=>by
   obtain ⟨q,hq,rfl⟩:=List.getElem_of_mem hd
   rw [List.length_take] at hq
   rw [List.getElem_take]
   exact hy.lt (by omega) hi
  refine qtake (decide_eq_true (by show (i:Int) < (y.length:Int); omega)) (qbind _ hsh (qbind _ (qidx hi) ?_))
  generalize ((w.toNat:Int).fdiv (2 ^ (min (i:Int).toNat 64)))=n
  rcases and1 n with e | e
  ·refine qtake (by rw [e]; rfl) (Yes.bind (Yes.apnd (by simp; omega) (by simp; omega) (hk _ ?_)))
   rw [List.take_succ_eq_append_getElem hi]
   refine ⟨sub_snoc h1 _,sub_skip h2 _,by simp; omega,fun c=>?_,fun c hc d hd=>?_⟩
   ·have := h4 c
    simp only [List.mem_append,List.mem_singleton] at this ⊢
    rw [this]
    constructor
    ·rintro ((h | h) | h)
     ·exact .inl h
     ·exact .inr (.inl h)
     ·exact .inr (.inr h)
    ·rintro (h | h | h)
     ·exact .inl (.inl h)
     ·exact .inl (.inr h)
     ·exact .inr h
   ·rcases List.mem_append.1 hd with hd | hd
    ·exact h5 c hc d hd
    ·rw [List.mem_singleton.1 hd]
     have:=hlt c (h2.subset hc)
     omega
  ·refine qskip (by rw [e]; rfl) (qtake (by rw [e]; rfl) (Yes.bind (Yes.apnd (by simp; omega) (by simp; omega) (hk _ ?_))))
   rw [List.take_succ_eq_append_getElem hi]
   refine ⟨sub_skip h1 _,sub_snoc h2 _,by simp; omega,fun c=>?_,fun c hc d hd=>?_⟩
   ·have := h4 c
    simp only [List.mem_append,List.mem_singleton] at this ⊢
    rw [this]
    constructor
    ·rintro ((h | h) | h)
     ·exact .inl (.inl h)
     ·exact .inr h
     ·exact .inl (.inr h)
    ·rintro ((h | h) | h)
     ·exact .inl (.inl h)
     ·exact .inr h
     ·exact .inl (.inr h)
   ·rcases List.mem_append.1 hc with hc | hc
    ·exact h5 c hc d hd
    ·rw [List.mem_singleton.1 hc]
     have:=hlt d (h1.subset hd)
     omega
 ·refine qskip (decide_eq_false (by show ¬ (y.length : Int) < (y.length : Int); omega)) (Yes.some ?_)
  rw [List.take_length] at hI
  exact hI
theorem LgOk.sub {y z:List BookCloth} (h:LgOk y) (hs:z.Sublist y):LgOk z:=⟨Nat.le_trans hs.length_le h.1,h.2.1.sublist hs,fun c hc=>h.2.2 c (hs.subset hc)⟩
theorem s7v {y:List BookCloth} (hy:LgOk y) (w:UInt16):Yes (f7 y w) fun r=>r.2=true∧f19 r.1=some (y,0,0):=by
 unfold f7
 refine Yes.bind ((s7h hy w).mono fun z hz=>?_)
 obtain ⟨h1,h2,h3,h4,h5⟩:=hz
 have ha:=hy.sub h1
 have hb:=hy.sub h2
 refine qbind _ (s17v ha) (qbind _ (s17v hb) (Yes.some ⟨rfl,?_⟩))
 refine s19v ha hb hy ?_ h4 (by rw [List.length_append]; omega)
 exact List.pairwise_append.2 ⟨hb.2.1.imp fun h=>by omega,ha.2.1.imp fun h=>by omega,fun c hc d hd=>h5 c hc d hd⟩
end Go.Proofs.YtbelgnbjkciafaaGreatDoor
