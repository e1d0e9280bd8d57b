/- Values that the function owns with all that they lead to: from and to own slices; struct values; what calls hand out. No program is named here. -/
import Derived.Test.YtmpjooneiaiffaaOy
namespace Go.Proofs.Ytmpjooneiaiffaa
open Go.RowKit

def OVb {α:Type} [GoT α] (A:Ow α) (i:Nat) (g:Gh) (w:World) (t:TypeId) (x:α) (b:Nat):Prop:=∃ s,OV A i g w t x b s∧A.ok s
section
variable {α β γ:Type} [GoT α] [GoT β] [GoT γ] {A:Ow α} {B:Ow β} {i j b:Nat} {g g':Gh} {w w':World} {t:TypeId} {x:α} {s:A.S} {v:Value}
theorem OVb.stp (h:OVb A i g w t x b) (k:Stp j g w g' w') (hne:Nat.beq i j=false):OVb A i g' w' t x b:=let ⟨s,h1,h2⟩:=h; ⟨s,h1.stp k hne,h2⟩
theorem sh_flat : ∀ l : List (Ow.sh α).S, l.flatMap (Ow.sh α).bl = []
 | []=>rfl
 | s :: l=>by rw [List.flatMap_cons,sh_flat l]; rfl
theorem OA.toW {et:TypeId} {xs:List α} (h:OA i g w et xs v):OWx (Ow.list et (Ow.sh α)) i g w xs v:=by
 rcases h with ⟨rfl,rfl⟩ | ⟨b,c,cs,rfl,ho,hm,hh,h1,h2,h3,hf⟩
 ·exact ⟨.nil,⟨_,rfl,⟨rfl,rfl⟩,List.nodup_nil,fun c hc=>by cases hc⟩,trivial⟩
 ·have hbl : (Ow.list et (Ow.sh α)).bl (.at b c (List.replicate xs.length ())) = [b] := congrArg (List.cons b) (sh_flat (α := α) _)
  refine ⟨.at b c (List.replicate xs.length ()),⟨_,rfl,⟨rfl,h1,h2,cs,hh,h3,Aa hf⟩,by rw [hbl]; simp,fun x hx=>?_⟩,fun _ _=>trivial⟩
  rw [hbl,List.mem_singleton] at hx
  rw [hx]; exact ⟨ho,hm⟩
theorem RV.ow {u:β} {v:Value} (h:RV g.m w u v) (i:Nat):OW (Ow.sh β) i g w u () v:=let ⟨cs,h1,h2⟩:=h; ⟨cs,h2,h1,List.nodup_nil,fun c hc=>by cases hc⟩
structure Wn (A : Ow α) (i : Nat) (g : Gh) (w : World) (x : α) (s : A.S) (cs : List Value) : Prop where
 ow:A.ow s g.m w x cs
 nd:(A.bl s).Nodup
 tg:∀ c ∈ A.bl s,g.o c=i∧g.m c=0
theorem OW.wn (h:OW A i g w x s v):Wn A i g w x s v.cells.toList:=by
 have hc:=h.cells
 obtain ⟨cs,h1,h4,h5,h6⟩:=h
 exact ⟨hc,h5,h6⟩
theorem Wn.mk_ {cs:List Value} (h:Wn A i g w x s cs):OW A i g w x s (toV (GoT.agg α) cs):=⟨cs,rfl,h.ow,h.nd,h.tg⟩
theorem Wn.pair {x:α} {y:β} {s:A.S} {t:B.S} {c1 c2:List Value} (h1:Wn A i g w x s c1) (h2:Wn B j g w y t c2) (hij:Nat.beq i j=false):∃ g',Stp i g w g' w∧g'.m=g.m∧Wn (Ow.pair A B) j g' w (x,y) (s,t) (c1 ++ c2):=by
 have hne:i ≠ j:=fun e=>by rw [e] at hij; simp at hij
 have hd:∀ c,c ∈ A.bl s→c ∉ B.bl t:=fun c a1 a2=>hne ((h1.tg c a1).1.symm.trans (h2.tg c a2).1)
 refine ⟨Om (A.bl s) j g,Bz (fun c hc=>(h1.tg c hc).1) j,rfl,⟨c1,c2,rfl,h1.ow,h2.ow⟩,List.nodup_append.2 ⟨h1.nd,h2.nd,fun a ha b hb e=>hd a ha (e ▸ hb)⟩,fun c hc=>?_⟩
 rcases List.mem_append.1 hc with hc | hc
 ·exact ⟨if_pos hc,(h1.tg c hc).2⟩
 ·exact ⟨by show (if _ then _ else _)=_; rw [if_neg fun h=>hd c h hc]; exact (h2.tg c hc).1,(h2.tg c hc).2⟩
theorem Wn.shl {y:β} {c2:List Value} (h:GoT.rep g.m w y c2) (j:Nat):Wn (Ow.sh β) j g w y () c2:=⟨h,List.nodup_nil,fun c hc=>by cases hc⟩
theorem Wn.stp {k:Nat} {cs:List Value} (h:Wn A i g w x s cs) (hk:Stp k g w g' w') (hne:Nat.beq i k=false):Wn A i g' w' x s cs:=by
 have hij:i ≠ k:=fun e=>by rw [e] at hne; simp at hne
 have hn:∀ c,g.o c=i→g.o c ≠ k:=fun c e=>by rw [e]; exact hij
 exact ⟨A.mono hk.ch (fun c hc=>hk.block c (A.lt h.ow c hc) (hn c (h.tg c hc).1)) h.ow,h.nd,fun c hc=>⟨(hk.o c (A.lt h.ow c hc) (hn c (h.tg c hc).1)).trans (h.tg c hc).1,(hk.m c (A.lt h.ow c hc) (hn c (h.tg c hc).1)).trans (h.tg c hc).2⟩⟩
theorem Wn.struct {α:Type} {to:α→β} {x:α} {s:B.S} {cs:List Value} (h:Wn B i g w (to x) s cs):@Wn α (GoT.struct α to) (Ow.struct to B) i g w x s cs:=
 @Wn.mk α (GoT.struct α to) (Ow.struct to B) i g w x s cs h.ow h.nd h.tg
theorem Wn.fl {cs:List Value} (h:Wn A i g w x s cs):Wn A i g w x s (cs ++ []):=by rw [List.append_nil]; exact h
theorem Wn.nil (et:TypeId) (A:Ow α) (i:Nat) (g:Gh) (w:World):Wn (Ow.list et A) i g w [] .nil [.slice none 0 0]:=⟨⟨rfl,rfl⟩,List.nodup_nil,fun c hc=>by cases hc⟩
theorem OW.csz (h:OW A i g w x s v):v.cells.size=GoT.k α:=by have:=A.len h.cells; simpa using this
/-! ### What calls hand out -/
def Ow.free (A:Ow α):Prop:=∀ {s:A.S} {m m':Nat→Nat} {w:World} {x:α} {cs:List Value},A.ok s→A.ow s m w x cs→A.ow s m' w x cs
theorem Ou {ss:List Unit} {i:Nat}:ss.set i ()=ss:=by
 apply List.ext_getElem (by simp)
 intro j h1 h2; rfl
end
/-! ### In regions that draw their order -/
section
variable {α β γ:Type} [GoT α] [GoT β] [GoT γ] {A:Ow α} {B:Ow β} {E:Ow γ} {P:Program} {e:Env} {w:World} {g:Gh} {x y:Operand} {i b b1 off:Nat} {t t2:TypeId} {a0 a1:α} {s:A.S}
theorem up_owx {a:α} {v:Value}:Up Ve (fun g w=>OWx A i g w a v):=fun _ _ _ _ hx h=>h.ext hx
theorem up_ov {a:α}:Up Ve (fun g w=>OV A i g w t a b s):=fun _ _ _ _ hx h=>h.ext hx
theorem Eo {st : β → α} {put : Unit → A.S} {u u' : β} {v : Value} (c : Cxt A b (Ow.sh β) st b1 off put) (hx0 : st u = a0) (hx1 : st u' = a1) (hs : put () = s) (hsz : ∀ w, (sizeOf t).run P w = .ok (GoT.k β) w) (hp : ev e x = .pointer (some ⟨b1, off, none⟩)) (h : OV A i g w t2 a0 b s ∨ OV A i g w t2 a1 b s) (hy : ev e y = v) (hv : RV g.m w u' v) (hk : 0 < GoT.k β := by decide) :
  Doe P (.store t x y) e w fun _ w'=>∃ g',(Vg i (fun g w=>OV A i g w t2 a0 b s) (fun g w=>OV A i g w t2 a1 b s)).rel g w g' w'∧OV A i g' w' t2 a1 b s:=by
 have key:∀ u0,st u0=a0 ∨ st u0=a1→OV A i g w t2 (st u0) b s→Doe P (.store t x y) e w fun _ w'=>∃ g',(Vg i (fun g w=>OV A i g w t2 a0 b s) (fun g w=>OV A i g w t2 a1 b s)).rel g w g' w'∧OV A i g' w' t2 a1 b s:=fun u0 _ h=>
  Ab c rfl hs hsz hp h hy hv (fun g' w' hst hb=>by
   rw [hx1] at hb
   exact ⟨g',⟨hst,fun _=>hb,fun _=>.inr hb⟩,hb⟩) hk
 rcases h with h | h
 ·exact key u (.inl hx0) (hx0 ▸ h)
 ·exact key u' (.inr hx1) (hx1 ▸ h)
theorem loadHAB {et : TypeId} {st0 st1 : List γ → α} {put0 put1 : (Ow.list et E).S → A.S} {ys0 ys1 : List γ} {s' : (Ow.list et E).S} {d : Option Tmp} {ty : TypeId} {pos : String} {af : Array Edge} {gd : Option (Nat × Bool)} (c0 : Cxt A b (Ow.list et E) st0 b1 off put0) (hx0 : st0 ys0 = a0) (hs0 : put0 s' = s) (c1 : Cxt A b (Ow.list et E) st1 b1 off put1) (hx1 : st1 ys1 = a1) (hs1 : put1 s' = s) (hn : ys1.length = ys0.length)
  (ho:(Ow.list et E).ok s') (ha:∀ w,(isAgg t).run P w=.ok false w) (hp:ev e x=.pointer (some ⟨b1,off,none⟩)) (h:OV A i g w t2 a0 b s ∨ OV A i g w t2 a1 b s):(execOp (ev e) ⟨d,.load t x,ty,pos,af,gd⟩).run P w=.ok (.value (Nc s' ys0.length)) w:=by
 rcases h with h | h
 ·subst hx0; subst hs0
  simp [execOp,hp,Instr.loadAt,Instr.sureAddr,Ak ha (loc_hdr (c0.rd h.loc) ho)]
 ·rw [← hn]
  subst hx1; subst hs1
  simp [execOp,hp,Instr.loadAt,Instr.sureAddr,Ak ha (loc_hdr (c1.rd h.loc) ho)]
theorem Gv.at_ {α β:Type} [GoT α] [GoT β] {o off:Nat} {f:α→β} {s:α→β→α} (h:Gv o f s) (ho:off=o):Gv off f s:=ho ▸ h
theorem vmod_vmod {β:Type} {n:Nat} {v:Vector β n} {i:Int} {h:β→β} (hh:∀ b,h (h b)=h b):Jq (Jq v i h) i h=Jq v i h:=by
 unfold Jq
 split
 ·simp [hh]
 ·rfl
theorem Po {α : Type} [GoT α] {t t2 : TypeId} {i : Nat} {p v : Value} {a0 a1 : α} (hs : ∀ w, (sizeOf t).run P w = .ok (GoT.k α) w) (hx : ev e x = p) (hp : OB i g w t2 a0 p ∨ OB i g w t2 a1 p) (hy : ev e y = v) (hv : RV g.m w a1 v) :
  Doe P (.store t x y) e w fun _ w'=>∃ g',(Vg i (fun g w=>OB i g w t2 a0 p) (fun g w=>OB i g w t2 a1 p)).rel g w g' w'∧OB i g' w' t2 a1 p:=by
 rcases hp with hp | hp
 ·exact Ij hs hx hp hy hv fun g' w' hst hb=>⟨g',⟨hst,fun _=>hb,fun _=>.inr hb⟩,hb⟩
 ·exact Ij hs hx hp hy hv fun g' w' hst hb=>⟨g',⟨hst,fun _=>hb,fun _=>.inr hb⟩,hb⟩
end
end Go.Proofs.Ytmpjooneiaiffaa
