/- Values that the function owns with all that they lead to: from and to own slices; struct values; what calls hand out. No program is named here. -/
import Derived.Test.YtlmibfohllgmeaaGreatOy
namespace Go.Proofs.YtlmibfohllgmeaaGreat
open Go.RowKit

def OVb {α:Type} [GoT α] (A:Ow α) (i:Nat) (g:Gh) (w:World) (t:TypeId) (x:α) (b:Nat):Prop:=∃ s,OV A i g w t x b s∧A.ok s
section
variable {α β γ:Type} [GoT α] [GoT β] [GoT γ] {A:Ow α} {B:Ow β} {i j b:Nat} {g g':Gh} {w w':World} {t:TypeId} {x:α} {s:A.S} {v:Value}
theorem OVb.stp (h:OVb A i g w t x b) (k:Stp j g w g' w') (hne:Nat.beq i j=false):OVb A i g' w' t x b:=let ⟨s,h1,h2⟩:=h; ⟨s,h1.stp k hne,h2⟩
theorem RV.ow {u:β} {v:Value} (h:RV g.m w u v) (i:Nat):OW (Ow.sh β) i g w u () v:=let ⟨cs,h1,h2⟩:=h; ⟨cs,h2,h1,List.nodup_nil,fun c hc=>by cases hc⟩
structure Wn (A : Ow α) (i : Nat) (g : Gh) (w : World) (x : α) (s : A.S) (cs : List Value) : Prop where
 ow:A.ow s g.m w x cs
 nd:(A.bl s).Nodup
 tg:∀ c ∈ A.bl s,g.o c=i∧g.m c=0
theorem Wn.shl {y:β} {c2:List Value} (h:GoT.rep g.m w y c2) (j:Nat):Wn (Ow.sh β) j g w y () c2:=⟨h,List.nodup_nil,fun c hc=>by cases hc⟩
theorem Wn.stp {k:Nat} {cs:List Value} (h:Wn A i g w x s cs) (hk:Stp k g w g' w') (hne:Nat.beq i k=false):Wn A i g' w' x s cs:=by
 have hij:i ≠ k:=fun e=>by rw [e] at hne; simp at hne
 have hn:∀ c,g.o c=i→g.o c ≠ k:=fun c e=>by rw [e]; exact hij
 exact ⟨A.mono hk.ch (fun c hc=>hk.block c (A.lt h.ow c hc) (hn c (h.tg c hc).1)) h.ow,h.nd,fun c hc=>⟨(hk.o c (A.lt h.ow c hc) (hn c (h.tg c hc).1)).trans (h.tg c hc).1,(hk.m c (A.lt h.ow c hc) (hn c (h.tg c hc).1)).trans (h.tg c hc).2⟩⟩
theorem Wn.struct {α:Type} {to:α→β} {x:α} {s:B.S} {cs:List Value} (h:Wn B i g w (to x) s cs):@Wn α (GoT.struct α to) (Ow.struct to B) i g w x s cs:=
 @Wn.mk α (GoT.struct α to) (Ow.struct to B) i g w x s cs h.ow h.nd h.tg
theorem Wn.fl {cs:List Value} (h:Wn A i g w x s cs):Wn A i g w x s (cs ++ []):=by rw [List.append_nil]; exact h
theorem Wn.nil (et:TypeId) (A:Ow α) (i:Nat) (g:Gh) (w:World):Wn (Ow.list et A) i g w [] .nil [.slice none 0 0]:=⟨⟨rfl,rfl⟩,List.nodup_nil,fun c hc=>by cases hc⟩
/-! ### What calls hand out -/
def Ow.free (A:Ow α):Prop:=∀ {s:A.S} {m m':Nat→Nat} {w:World} {x:α} {cs:List Value},A.ok s→A.ow s m w x cs→A.ow s m' w x cs
end
/-! ### In regions that draw their order -/
section
variable {α β γ:Type} [GoT α] [GoT β] [GoT γ] {A:Ow α} {B:Ow β} {E:Ow γ} {P:Program} {e:Env} {w:World} {g:Gh} {x y:Operand} {i b b1 off:Nat} {t t2:TypeId} {a0 a1:α} {s:A.S}
theorem Gs.at_ {α β:Type} [GoT α] [GoT β] {o off:Nat} {f:α→β} {s:α→β→α} (h:Gs o f s) (ho:off=o):Gs off f s:=ho ▸ h
theorem vmod_vmod {β:Type} {n:Nat} {v:Vector β n} {i:Int} {h:β→β} (hh:∀ b,h (h b)=h b):Jj (Jj v i h) i h=Jj v i h:=by
 unfold Jj
 split
 ·simp [hh]
 ·rfl
theorem My {α : Type} [GoT α] {t t2 : TypeId} {i : Nat} {p v : Value} {a0 a1 : α} (hs : ∀ w, (sizeOf t).run P w = .ok (GoT.k α) w) (hx : ev e x = p) (hp : OB i g w t2 a0 p ∨ OB i g w t2 a1 p) (hy : ev e y = v) (hv : RV g.m w a1 v) :
  Doe P (.store t x y) e w fun _ w'=>∃ g',(Fe i (fun g w=>OB i g w t2 a0 p) (fun g w=>OB i g w t2 a1 p)).rel g w g' w'∧OB i g' w' t2 a1 p:=by
 rcases hp with hp | hp
 ·exact D_storeO hs hx hp hy hv fun g' w' hst hb=>⟨g',⟨hst,fun _=>hb,fun _=>.inr hb⟩,hb⟩
 ·exact D_storeO hs hx hp hy hv fun g' w' hst hb=>⟨g',⟨hst,fun _=>hb,fun _=>.inr hb⟩,hb⟩
end
end Go.Proofs.YtlmibfohllgmeaaGreat
