/- BookRepairs of chapter 13: the plain law. -/
import Derived.Test.YtmebkoemfjlbcaaGreatDoorBkKo
set_option maxRecDepth 100000
set_option maxHeartbeats 4000000
namespace Go.Proofs.YtmebkoemfjlbcaaGreatDoor
open Go.RowKit
theorem qskip {α:Type} {Q:α→Prop} {c:Bool} {X Y:Option α} (hc:c=false) (h:Yes Y Q):Yes (bif c then X else Y) Q:=by rw [hc]; exact h
theorem qtake {α:Type} {Q:α→Prop} {c:Bool} {X Y:Option α} (hc:c=true) (h:Yes X Q):Yes (bif c then X else Y) Q:=by rw [hc]; exact h
theorem qidx {α:Type} {xs:List α} {i:Nat} (h:i < xs.length):idx xs (i:Int)=some xs[i]:=by unfold idx; rw [if_pos (Int.natCast_nonneg i)]; exact List.getElem?_eq_getElem h
def clo (a b c d e f:UInt8):BookCloth:=⟨256 * (a.toNat:Int) + (b.toNat:Int),(c.toNat:Int),(d.toNat:Int),(e.toNat:Int),(f.toNat:Int)⟩
def sm6 (a b c d e f:UInt8):UInt8:=0 + a + b + c + d + e + f
def pl6 (a b c d e f:UInt8):UInt8:=0 + u8w 1 * a + u8w 2 * b + u8w 3 * c + u8w 4 * d + u8w 5 * e + u8w 6 * f
theorem s131v (a b c d e f g h:UInt8):f131 ⟨#[a,b,c,d,e,f,g,h],rfl⟩=some (sm6 a b c d e f,pl6 a b c d e f):=by kernel_rfl
def S94 (a b c d e f:UInt8):Int:=w64 (w64 (w64 (w64 (w64 (w64 (0 + (a.toNat:Int)) + (b.toNat:Int)) + (c.toNat:Int)) + (d.toNat:Int)) + (e.toNat:Int)) + (f.toNat:Int))
def T94 (a b c d e f:UInt8):Int:=w64 (w64 (w64 (w64 (w64 (w64 (0 + w64 (1 * (a.toNat:Int))) + w64 (2 * (b.toNat:Int))) + w64 (3 * (c.toNat:Int))) + w64 (4 * (d.toNat:Int))) + w64 (5 * (e.toNat:Int))) + w64 (6 * (f.toNat:Int)))
theorem s94a (a b c d e f:UInt8):f94 [a,b,c,d,e,f]=(rem64 (S94 a b c d e f) 256).bind fun x=>(rem64 (T94 a b c d e f) 256).bind fun y=>some (u8w x,u8w y):=by kernel_rfl
theorem b8 (a:UInt8):0 ≤ (a.toNat:Int)∧(a.toNat:Int) < 256:=⟨Int.natCast_nonneg _,by have:=a.toNat_lt; omega⟩
theorem u8w_toNat {n:Int} (h0:0 ≤ n):(u8w n).toNat=n.toNat % 256:=by
 unfold u8w
 simp [UInt8.toNat_ofNat']
 omega
theorem s94v (a b c d e f:UInt8):f94 [a,b,c,d,e,f]=some (sm6 a b c d e f,pl6 a b c d e f):=by
 have ha:=b8 a; have hb:=b8 b; have hc:=b8 c; have hd:=b8 d; have he:=b8 e; have hf:=b8 f
 have hS:S94 a b c d e f=(a.toNat:Int) + b.toNat + c.toNat + d.toNat + e.toNat + f.toNat:=by
  unfold S94
  rw [w64_id (n:=0 + (a.toNat:Int)) (by omega) (by omega),w64_id (n:=0 + (a.toNat:Int) + (b.toNat:Int)) (by omega) (by omega),w64_id (n:=0 + (a.toNat:Int) + (b.toNat:Int) + (c.toNat:Int)) (by omega) (by omega),w64_id (n:=0 + (a.toNat:Int) + (b.toNat:Int) + (c.toNat:Int) + (d.toNat:Int)) (by omega) (by omega),w64_id (n:=0 + (a.toNat:Int) + (b.toNat:Int) + (c.toNat:Int) + (d.toNat:Int) + (e.toNat:Int)) (by omega) (by omega),w64_id (n:=0 + (a.toNat:Int) + (b.toNat:Int) + (c.toNat:Int) + (d.toNat:Int) + (e.toNat:Int) + (f.toNat:Int)) (by omega) (by omega)]
  omega
 have hT:T94 a b c d e f=(a.toNat:Int) + 2 * b.toNat + 3 * c.toNat + 4 * d.toNat + 5 * e.toNat + 6 * f.toNat:=by
  unfold T94
  rw [w64_id (n:=1 * (a.toNat:Int)) (by omega) (by omega),w64_id (n:=2 * (b.toNat:Int)) (by omega) (by omega),w64_id (n:=3 * (c.toNat:Int)) (by omega) (by omega),w64_id (n:=4 * (d.toNat:Int)) (by omega) (by omega),w64_id (n:=5 * (e.toNat:Int)) (by omega) (by omega),w64_id (n:=6 * (f.toNat:Int)) (by omega) (by omega)]
  rw [w64_id (n:=0 + 1 * (a.toNat:Int)) (by omega) (by omega),w64_id (n:=0 + 1 * (a.toNat:Int) + 2 * (b.toNat:Int)) (by omega) (by omega),w64_id (n:=0 + 1 * (a.toNat:Int) + 2 * (b.toNat:Int) + 3 * (c.toNat:Int)) (by omega) (by omega),w64_id (n:=0 + 1 * (a.toNat:Int) + 2 * (b.toNat:Int) + 3 * (c.toNat:Int) + 4 * (d.toNat:Int)) (by omega) (by omega),w64_id (n:=0 + 1 * (a.toNat:Int) + 2 * (b.toNat:Int) + 3 * (c.toNat:Int) + 4 * (d.toNat:Int) + 5 * (e.toNat:Int)) (by omega) (by omega),w64_id (n:=0 + 1 * (a.toNat:Int) + 2 * (b.toNat:Int) + 3 * (c.toNat:Int) + 4 * (d.toNat:Int) + 5 * (e.toNat:Int) + 6 * (f.toNat:Int)) (by omega) (by omega)]
  omega
 rw [s94a,hS,hT]
 have r1:∀ n:Int,0 ≤ n→rem64 n 256=some (n % 256):=fun n hn=>by
  unfold rem64; rw [if_neg (by omega),Int.tmod_eq_emod_of_nonneg hn]
 rw [r1 _ (by omega),r1 _ (by omega)]
 show some (_,_)=some (_,_)
 refine congrArg some (Prod.ext ?_ ?_)
 ·refine UInt8.toNat_inj.1 ?_
  show (u8w _).toNat=(sm6 a b c d e f).toNat
  rw [u8w_toNat (by omega)]
  unfold sm6
  simp only [UInt8.toNat_add]
  simp
  omega
 ·refine UInt8.toNat_inj.1 ?_
  show (u8w _).toNat=(pl6 a b c d e f).toNat
  rw [u8w_toNat (by omega)]
  unfold pl6
  simp only [UInt8.toNat_add,UInt8.toNat_mul,show (u8w 1).toNat=1 from rfl,show (u8w 2).toNat=2 from rfl,show (u8w 3).toNat=3 from rfl,show (u8w 4).toNat=4 from rfl,show (u8w 5).toNat=5 from rfl,show (u8w 6).toNat=6 from rfl]
  simp
  omega
end Go.Proofs.YtmebkoemfjlbcaaGreatDoor
/- BookRepairs of chapter 13: records. -/
set_option maxRecDepth 100000
set_option maxHeartbeats 4000000
namespace Go.Proofs.YtmebkoemfjlbcaaGreatDoor
open Go.RowKit
def vB (c:BookCloth):Bool:=btwB 0 65535 c.Day && (btwB 0 15 c.Loom && (btwB 0 7 c.Chain && (btwB 0 7 c.Tie && btwB 1 60 c.Picks)))
theorem s56v (x a b:Int):f56 x a b=some (btwB a b x):=by
 refine Yes.eq ?_
 unfold f56
 refine Yes.bind (Yes.cond (fun h=>?_) (fun h=>?_))
 ·refine Yes.some (Yes.some ?_)
  have h:=of_decide_eq_true h
  unfold btwB
  rw [decide_eq_decide]; omega
 ·refine Yes.some (Yes.some ?_)
  have h:=of_decide_eq_false h
  unfold btwB
  symm; rw [decide_eq_false_iff_not]; omega
theorem s39v (c:BookCloth):f39 c=some (vB c):=by
 refine Yes.eq ?_
 unfold f39 vB
 refine Yes.bind (qbindB _ (s56v _ _ _) (Yes.cond (fun h=>qbindB _ (s56v _ _ _) (Yes.cond (fun h2=>qbindB _ (s56v _ _ _) (Yes.cond (fun h3=>qbindB _ (s56v _ _ _) (Yes.cond (fun h4=>qbindB _ (s56v _ _ _) (Yes.some (Yes.some ?_))) (fun h4=>Yes.some (Yes.some ?_)))) (fun h3=>Yes.some (Yes.some ?_)))) (fun h2=>Yes.some (Yes.some ?_)))) (fun h=>Yes.some (Yes.some ?_))))
 ·rw [h,h2,h3,h4]; rfl
 ·rw [h,h2,h3,h4]; rfl
 ·rw [h,h2,h3]; rfl
 ·rw [h,h2]; rfl
 ·rw [h]; rfl
theorem s100v (a b:Int) (xs:List Int) (hl:xs.length < 5):f100 a b xs=some (xs.all (btwB a b)):=b69B a b xs (by omega)
theorem s88v (c:BookCloth):f88 c=some (vB c):=by
 refine Yes.eq ?_
 unfold f88 vB
 refine Yes.bind (qbindB _ (s100v _ _ _ (by simp)) (Yes.cond (fun h=>qbindB _ (s100v _ _ _ (by simp)) (Yes.cond (fun h2=>qbindB _ (s100v _ _ _ (by simp)) (Yes.cond (fun h3=>qbindB _ (s100v _ _ _ (by simp)) (Yes.some (Yes.some ?_))) (fun h3=>Yes.some (Yes.some ?_)))) (fun h2=>Yes.some (Yes.some ?_)))) (fun h=>Yes.some (Yes.some ?_))))
 ·simp only [List.all_cons, List.all_nil, Bool.and_true] at h h2 h3 ⊢
  rw [h,h2]
  revert h3
  cases btwB 0 7 c.Chain <;> cases btwB 0 7 c.Tie <;> simp
 ·simp only [List.all_cons, List.all_nil, Bool.and_true] at h h2 h3 ⊢
  rw [h,h2]
  revert h3
  cases btwB 0 7 c.Chain <;> cases btwB 0 7 c.Tie <;> simp
 ·simp only [List.all_cons, List.all_nil, Bool.and_true] at h h2 ⊢
  rw [h,h2]; rfl
 ·simp only [List.all_cons, List.all_nil, Bool.and_true] at h ⊢
  rw [h]; rfl
theorem or_day (a b:UInt8):bit64 .or (w64 ((a.toNat:Int) * 256)) (b.toNat:Int)=256 * (a.toNat:Int) + (b.toNat:Int):=by
 have ha:=a.toNat_lt
 have hb:=b.toNat_lt
 rw [w64_id (by omega) (by omega)]
 unfold bit64
 have e1:BitVec.ofInt 64 ((a.toNat:Int) * 256)=BitVec.ofNat 64 (a.toNat * 256):=by rw [← BitVec.ofInt_natCast]; rfl
 have e2:BitVec.ofInt 64 (b.toNat:Int)=BitVec.ofNat 64 b.toNat:=BitVec.ofInt_natCast ..
 show w64 (((BitVec.ofInt 64 ((a.toNat:Int) * 256) ||| BitVec.ofInt 64 (b.toNat:Int)).toNat:Nat):Int)=_
 rw [e1,e2,BitVec.toNat_or,BitVec.toNat_ofNat,BitVec.toNat_ofNat,Nat.mod_eq_of_lt (by omega),Nat.mod_eq_of_lt (by omega)]
 have e3:=Nat.shiftLeft_add_eq_or_of_lt (b:=b.toNat) (i:=8) (by omega) a.toNat
 rw [Nat.shiftLeft_eq] at e3
 rw [show a.toNat * 256=a.toNat * 2 ^ 8 from rfl,← e3,w64_id (by omega) (by omega)]
 omega
theorem s38v (a b c d e f g h:UInt8):f38 [a,b,c,d,e,f,g,h]=some (clo a b c d e f,sm6 a b c d e f == g && pl6 a b c d e f == h):=by
 have ha:=b8 a; have hb:=b8 b
 have hd:w64 (w64 ((a.toNat:Int) * 256) + (b.toNat:Int))=256 * (a.toNat:Int) + (b.toNat:Int):=by
  rw [w64_id (n:=(a.toNat:Int) * 256) (by omega) (by omega),w64_id (by omega) (by omega)]; omega
 refine Yes.eq ?_
 unfold f38
 refine qbindB [a,b,c,d,e,f] rfl (qbindB _ (s94v a b c d e f) (Yes.bind ?_))
 refine qbindB a rfl (qbindB b rfl (qbindB c rfl (qbindB d rfl (qbindB e rfl (qbindB f rfl (qbindB g rfl ?_))))))
 rw [hd]
 refine Yes.cond (fun h1=>?_) (fun h1=>?_)
 ·exact qbindB h rfl (Yes.some (Yes.some (by rw [h1]; rfl)))
 ·exact Yes.some (Yes.some (by rw [h1]; rfl))
theorem s92v (a b c d e f g h:UInt8):f92 ⟨#[a,b,c,d,e,f,g,h],rfl⟩=some (clo a b c d e f,bif (sm6 a b c d e f == g && pl6 a b c d e f == h) then (bif vB (clo a b c d e f) then 0 else 2) else 130):=by
 refine Yes.eq ?_
 unfold f92
 refine qbindB a rfl (qbindB (w64 ((a.toNat:Int) * 256)) rfl (qbindB b rfl (qbindB c rfl (qbindB d rfl (qbindB e rfl (qbindB f rfl (qbindB _ (s131v a b c d e f g h) (Yes.jn ?_))))))))
 rw [or_day]
 change Yes (Option.bind _ _) _
 refine Yes.bind (qbindB g rfl ?_)
 refine Yes.cond (fun h1=>?_) (fun h1=>?_)
 ·have e1 : (sm6 a b c d e f == g) = false := by simpa [bne] using h1
  refine Yes.some (qtake rfl (Yes.some ?_))
  rw [e1]; rfl
 ·have e1 : (sm6 a b c d e f == g) = true := by simpa [bne] using h1
  refine qbindB h rfl (Yes.some ?_)
  rw [e1]
  cases h2:(pl6 a b c d e f == h) with
  | false=>
   refine qtake (by show (pl6 a b c d e f != h)=true; simp [bne,h2]) (Yes.some rfl)
  | true=>
   refine qskip (by show (pl6 a b c d e f != h)=false; simp [bne,h2]) (qbindB _ (s88v _) ?_)
   show Yes (bif !vB (clo a b c d e f) then _ else _) _
   cases h3:vB (clo a b c d e f) with
   | false=>exact Yes.some rfl
   | true=>exact Yes.some rfl
def val (l : List UInt8) : Option BookCloth := match l with
 | [a,b,c,d,e,f,g,h]=>bif (sm6 a b c d e f == g && pl6 a b c d e f == h) && vB (clo a b c d e f) then some (clo a b c d e f) else none
 | _=>none
theorem eight {l:List UInt8} (h:l.length=8):∃ a b c d e f g k,l=[a,b,c,d,e,f,g,k]:=by
 match l,h with
 | [a,b,c,d,e,f,g,k],_=>exact ⟨a,b,c,d,e,f,g,k,rfl⟩
theorem s38w {l:List UInt8} (h:l.length=8):∃ c o,f38 l=some (c,o)∧f39 c=some (vB c)∧val l=bif o && vB c then some c else none:=by
 obtain ⟨a,b,c,d,e,f,g,k,rfl⟩:=eight h
 exact ⟨_,_,s38v a b c d e f g k,s39v _,rfl⟩
theorem s92w (v:Vector UInt8 8):∃ c e,f92 v=some (c,e)∧val v.toList=bif e == (0:Int) then some c else none:=by
 obtain ⟨xs,hx⟩:=v
 obtain ⟨l⟩:=xs
 obtain ⟨a,b,c,d,e,f,g,k,rfl⟩:=eight (l:=l) hx
 refine ⟨_,_,s92v a b c d e f g k,?_⟩
 show (bif _ then _ else _)=_
 cases (sm6 a b c d e f == g && pl6 a b c d e f == k) <;> cases vB (clo a b c d e f) <;> rfl
end Go.Proofs.YtmebkoemfjlbcaaGreatDoor
