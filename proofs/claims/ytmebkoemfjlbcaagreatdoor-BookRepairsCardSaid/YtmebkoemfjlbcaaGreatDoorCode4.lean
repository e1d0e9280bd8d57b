import Derived.Test.YtmebkoemfjlbcaaGreatDoorCode3
set_option maxRecDepth 8000
set_option maxHeartbeats 4000000
namespace Go.Proofs.YtmebkoemfjlbcaaGreatDoor
open Go.RowKit
section
variable {gI:Gh} {wI:World} {b:Nat} {x:BookMiller}
theorem layR_144:layoutOf Tryz.prog 144=some ([Str.v ⟨[]⟩,Str.v ⟨[]⟩,Iz 0,.slice none 0 0,.slice none 0 0],[(0,3),(3,2)]):=by kernel_rfl
theorem rep_miller0 {m:Nat→Nat} {w:World} (s:Str):GoT.rep m w (⟨⟨s,s,0⟩,⟨[],[]⟩⟩:BookMiller) [s.v,s.v,Iz 0,.slice none 0 0,.slice none 0 0]:=⟨[_,_,_],_,rfl,rep_reader ⟨s,s,0⟩,[_],_,rfl,rep_nil,rep_nil⟩
theorem OB.stpR {α:Type} [GoT α] {i:Nat} {g g':Gh} {w w':World} {t:TypeId} {x:α} {p:Value} (h:OB i g w t x p) (k:StpR g w g' w') (hi:rdr i=false):OB i g' w' t x p:=by
 obtain ⟨b,cs,hp,ho,hm,hh,hr⟩:=h;have hb:=lt_of_heap hh
 have h0:rdr (g.o b)=false:=by rw [ho]; exact hi
 exact ⟨b,cs,hp,(k.o b hb h0).trans ho,(k.m b hb h0).trans hm,(k.block b hb h0).trans hh,GoT.mono k.ch hr⟩
theorem RV_chains {m:Nat→Nat} {w:World} {cr:List RawC} {v:Value} {cs:List BookChain} (h:RV m w cr v) (hl:cr.length=cs.length) (h6:∀ (i:Nat) (q:RawC) (c:BookChain),cr[i]?=some q→cs[i]?=some c→q.1=c.Name∧q.2.1=c.Chain.Hooks∧RV m w c.Chain.Cards q.2.2.v):RV m w cs v:=by
 obtain ⟨a,k,rfl,hk,hr⟩:=RV_list h;refine RV_list_mk hl (by omega) fun h0=>?_;obtain ⟨b,off,rfl,hb,hm,hrow⟩:=hr (by omega);refine ⟨b,off,rfl,hb,by rw [← hl]; exact hm,fun i c hi=>?_⟩;have hlt:=(List.getElem?_eq_some_iff.1 hi).1;obtain ⟨q,hq⟩:∃ q,cr[i]?=some q:=⟨_,List.getElem?_eq_getElem (by omega)⟩;obtain ⟨cl,hrep,hcell⟩:=hrow i q hq;obtain rfl:=rawC_rep hrep;obtain ⟨e1,e2,e3⟩:=h6 i q c hq hi;rw [e1,e2] at hcell;exact ⟨[c.Name.v,Iz c.Chain.Hooks,q.2.2.v],⟨[_],[_,_],rfl,rfl,[_],[_],rfl,rfl,rep_of_RV e3⟩,hcell⟩
theorem doe_run {P:Program} {op:Op} {e:Env} {w:World} {K:Value→World→Prop} {v:Value} (hrun:∀ d ty pos af gd,(execOp (ev e) ⟨d,op,ty,pos,af,gd⟩).run P w=.ok (.value v) w) (h:K v w):Doe P op e w K:=fun d ty pos af gd=>by
 unfold doE; rw [hrun]; exact h
def f77b (k:BookMiller→Option (PR BookMill)) (x:BookMiller):Option (PR BookMill):=
 bnd (f62 x.reader) fun q=>(f78 q.1).bind fun ws=>(idx ws 0).bind fun w0=>
  bif w0.b == [116,105,101] then bnd (f79 ⟨q.2,x.mill⟩ ws) k
  else bif w0.b == [99,104,97,105,110] then bnd (f80 ⟨q.2,x.mill⟩ ws) k
  else bif (bif w0.b == [99,97,114,100] then true else w0.b == [116,117,114,110,101,100]) then bnd (f81 ⟨q.2,x.mill⟩ ws) k
  else bif w0.b == [101,110,100] then bnd (f82 ⟨q.2,x.mill⟩ ws) fun _=>some (.ok x.mill)
  else bnd (f61 q.2 4) fun _=>none
def f77 (s:Str):Option (PR BookMill):=bnd (f62 ⟨s,s,0⟩) fun q=>bnd (f64 q.2 (q.1.b == [109,105,108,108])) fun _=>lp f77b big (⟨q.2,⟨[],[]⟩⟩:BookMiller)
theorem en77:Enters Tryz.prog 77:=enters_of Tryz.func77 (by kernel_rfl) rfl
theorem wk77 (hT:TabR gI.m wI) {s:Str} {p:Value} (hp:PT gI.m wI s p) {r:PR BookMill} (h:f77 s=some r):FnS (Ext gI wI) Tryz.prog 77 #[p] wI (okR r fun y g w v=>RV g.m w y v) (pnR 177 r):=by
 have key:FnS (Fr gI wI) Tryz.prog 77 #[p] wI (okR r fun y g w v=>RV g.m w y v) (pnR 177 r):=by
  refine fnS_of_E Tryz.func77 rfl (Nat.le_of_ble_eq_true rfl) ?_;show E _ 55 none _ _ _ _ _;have hfr:=Fr.start gI wI;refine E_sr (EL_d0 rfl (D_allocX (g:={ m:=gI.m,o:=fun _=>0 }) 5 (⟨[],[]⟩:BookMill) Tryz.zeroValue39 rz_BookMill fun g1 w1 p1 hs1 b1=>?_));have hfr:=hfr.ext hs1;have hp1:=hp.ch hs1.ch;refine EL_nt (E_sr (EL_d0 rfl (D_load Tryz.isAgg9 Tryz.sizeOf9 rfl hp1 fun v rv=>?_)));obtain rfl:=RV_str.1 rv;refine EL_d0 rfl (D_load Tryz.isAgg9 Tryz.sizeOf9 rfl hp1 fun v rv=>?_);obtain rfl:=RV_str.1 rv;refine EL_p (.agg #[s.v,s.v,Iz 0]) (P_build (vs:=[(0,s.v),(1,s.v)]) [[Str.v ⟨[]⟩],[Str.v ⟨[]⟩],[Iz 0]] layR_119 rfl rfl (.cons rfl (.cons rfl .nil)) ⟨⟨_,rfl,rfl⟩,⟨⟨_,rfl,rfl⟩,trivial⟩⟩) rfl (EL_p (.agg #[s.v,s.v,Iz 0,.slice none 0 0,.slice none 0 0]) (P_build (vs:=[(0,.agg #[s.v,s.v,Iz 0])]) [[Str.v ⟨[]⟩,Str.v ⟨[]⟩,Iz 0],[.slice none 0 0,.slice none 0 0]] layR_144 rfl rfl (.cons rfl .nil) ⟨⟨_,rfl,rfl⟩,trivial⟩) rfl (EL_d0 rfl (D_boxOc (g:=g1) 1 (a:=(⟨⟨s,s,0⟩,⟨[],[]⟩⟩:BookMiller)) (v:=.agg #[s.v,s.v,Iz 0,.slice none 0 0,.slice none 0 0]) rfl ⟨_,rep_miller0 s,rfl⟩ fun g2 w2 p2 hs2 b2 c2=>?_)));have hfr:=hfr.stp hs2;have b1:=b1.stp hs2 rfl;obtain ⟨b,rfl,hb⟩:=hbm_of b2 c2;have hb:RB g2 w2 b 144 ⟨s,s,0⟩ [.slice none 0 0,.slice none 0 0]:=hb;refine Zg (.pointer (some ⟨b,0,none⟩)) rfl rfl (EL_nt (Zf ?_));unfold f77 at h;refine E_drawX (g:=g2) (n:=8) (OutP (Fr gI wI) (pnR 177 r)) [0,1,2,3,4,5,7] [] [6] [0,1,2,3,4,5,6,7] mixedR (by kernel_rfl) (fun c e w h=>⟨rfl,h⟩) fun wc hx hlt=>(CX_pur (c:=.pointer (some ⟨b,0,none⟩)) rfl rfl rfl .plain (Zk rfl) (CX_pur (c:=.pointer (some ⟨b,0,none⟩)) rfl rfl rfl .plain (P_nilCheck rfl) (CX_pur (c:=.pointer (some ⟨b,0,none⟩)) rfl rfl rfl .plain (P_fa at_144_0 rfl) (CX_pur (c:=.pointer (some ⟨b,0,none⟩)) rfl rfl rfl .plain (Zk rfl) (CX_pur (c:=.pointer (some ⟨b,0,none⟩)) rfl rfl rfl .plain (P_nilCheck rfl) (CX_pur (c:=.pointer (some ⟨b,0,none⟩)) rfl rfl rfl .plain (P_fa at_144_0 rfl) (CX_bnd (vs:=[.pointer (some ⟨b,0,none⟩)]) rfl rfl .plain en62 (.cons rfl .nil) h (fun a ha=>wk62 (hT.ch (hfr.ch.trans hx.ch)) (HBm.ext hb hx) ha) (fun l e' g' w' hr hs=>⟨⟨l,e',hr,rfl⟩,g',(hfr.ext hx).stp hs⟩) (fun q g3 w3 v hs3 hR hx3 h=>?_))))))));obtain ⟨rfl,hb⟩:=hR;have hfr:=(hfr.ext hx).stp hs3;have b1:=(b1.ext hx).stp hs3 rfl;refine ⟨(hlt.stp hs3).toW,?_⟩;refine CX_pur (c:=.bool (q.1.b == [109,105,108,108])) rfl rfl rfl .plain (P_str (a:=q.1) (b:=⟨[109,105,108,108]⟩) rfl rfl rfl) (CX_nil (X_bnd (vs:=[.pointer (some ⟨b,0,none⟩),.bool (q.1.b == [109,105,108,108])]) en64 (.cons rfl (.cons rfl .nil)) .plain rfl h (fun a ha=>wk64 hb ha) (fun l e' g' w' hr hs=>endP hr (hfr.ext hs)) (fun y g4 w4 v hs4 hR hx4 h=>?_)));have hfr:=hfr.ext hs4;have b1:=b1.ext hs4;have hb:RB g4 w4 b 144 q.2 [.slice none 0 0,.slice none 0 0]:=HBm.ext hb hs4;refine EL_nt (Zr (E_lpD h (fun (x:BookMiller) e ds w'=>ds=[]∧e 1=p1∧e 2=.pointer (some ⟨b,0,none⟩)∧∃ g',Fr gI wI g' w'∧MB g' w' b x∧OB 5 g' w' 39 (⟨[],[]⟩:BookMill) p1) ⟨rfl,rfl,rfl,g4,hfr,⟨_,_,[],hb,OS.nil,RV_nil,OA.nil,rfl,by simp,by simp⟩,b1⟩ (fun X rec hX=>?_)));clear hfr hb b1 h hx hlt hx3 hx4 hs4 hs3 hp1;rintro x e ds w5 ⟨rfl,e1,e2,g5,hfr,hm,b1⟩ hk;unfold f77b at hk;obtain ⟨tl,hb,hrd⟩:=hm.rd;refine Zr (E_sr (Zo e2 rfl (EL_p (.pointer (some ⟨b,0,none⟩)) (P_nilCheck rfl) rfl (EL_p (.pointer (some ⟨b,0,none⟩)) (P_fa at_144_0 rfl) rfl (X_bnd (vs:=[.pointer (some ⟨b,0,none⟩)]) en62 (.cons rfl .nil) .plain rfl hk (fun a ha=>wk62 (hT.ch hfr.ch) hb ha) (fun l e' g' w' hr hs=>endP hr (hfr.stp hs)) (fun q g6 w6 v hs6 hR hx6 hk=>?_))))));obtain ⟨rfl,hb⟩:=hR;have hm:=hrd _ _ _ hs6 hb;have hfr:=hfr.stp hs6;have b1:=b1.stp hs6 rfl;obtain ⟨ws,hws,hk⟩:=bsome hk;obtain ⟨w0,hw0,hk⟩:=bsome hk;refine EL_d0 rfl (Zp (g:=g6) (vs:=[q.1.v,Str.v ⟨[32]⟩]) en78 (.cons rfl (.cons rfl .nil)) (wk78 (hT.ch hfr.ch) hws) fun g7 w7 v hs7 rW=>(Zg (v) rfl rfl ?_));have hm:=hm.ext hs7;have hfr:=hfr.ext hs7;have b1:=b1.ext hs7;have hb:=HBm.ext hb hs7;have hT:=hT.ch hfr.ch;refine EL_nt (E_sr (Zn (v) rfl rfl (EL_p (ePtr v 0 1) (Zh (α:=Str) Tryz.underlying104 Tryz.sizeOf9 rfl rW rfl hw0) rfl (EL_d0 rfl (D_load (a:=w0) Tryz.isAgg9 Tryz.sizeOf9 rfl (PT_idx rW hw0) fun v' rv=>?_)))))
  obtain rfl:=RV_str.1 rv;refine EL_nt (Zr (E_sr (EL_p (.bool (w0.b == [116,105,101])) (P_str (a:=w0) (b:=⟨[116,105,101]⟩) rfl rfl rfl) rfl (Zg (.bool (w0.b == [116,105,101])) rfl rfl (EL_nt ?_)))));rcases Zt hk with ⟨hc,hk⟩ | ⟨hc,hk⟩
  ·refine E_ct hc rfl (Za (Zo e2 rfl (Zn (v) rfl rfl (X_bnd (vs := [.pointer (some ⟨b, 0, none⟩), v]) en79 (.cons rfl (.cons rfl .nil)) .plain rfl hk (fun a ha => wk79 hT hm rW ha) (fun l e' g' w' hr hs => endP hr (hfr.stpZ hs.stpZ)) (fun y g8 w8 v hs8 hR hx8 hk => ?_)))))
   obtain ⟨rfl,hm⟩:=hR;exact Zb (blk_n (blk_n (Zd (hX y _ _ _ ⟨rfl,e1,e2,g8,hfr.stpZ hs8.stpZ,hm,b1.stpR hs8 rfl⟩ hk))))
  refine E_cf hc rfl (E_sr (EL_p (.bool (w0.b == [99,104,97,105,110])) (P_str (a:=w0) (b:=⟨[99,104,97,105,110]⟩) rfl rfl rfl) rfl (Zg (.bool (w0.b == [99,104,97,105,110])) rfl rfl (EL_nt ?_))));rcases Zt hk with ⟨hc,hk⟩ | ⟨hc,hk⟩
  ·refine E_ct hc rfl (Za (Zo e2 rfl (Zn (v) rfl rfl (X_bnd (vs := [.pointer (some ⟨b, 0, none⟩), v]) en80 (.cons rfl (.cons rfl .nil)) .plain rfl hk (fun a ha => wk80 hT hm rW ha) (fun l e' g' w' hr hs => endP hr (hfr.stpZ hs.stpZ)) (fun y g8 w8 v hs8 hR hx8 hk => ?_)))))
   obtain ⟨rfl,hm⟩:=hR;exact Zb (blk_n (blk_n (Zd (hX y _ _ _ ⟨rfl,e1,e2,g8,hfr.stpZ hs8.stpZ,hm,b1.stpR hs8 rfl⟩ hk))))
  refine E_cf hc rfl (E_cut (fun e ds w'=>ds=[]∧e 1=p1∧e 2=.pointer (some ⟨b,0,none⟩)∧e 3=v∧e 25=w0.v∧e 40=.bool (bif w0.b == [99,97,114,100] then true else w0.b == [116,117,114,110,101,100])∧w'=w7) (E_sr ?_) ?_)
  ·refine EL_p (.bool (w0.b == [99, 97, 114, 100])) (P_str (a := w0) (b := ⟨[99, 97, 114, 100]⟩) rfl rfl rfl) rfl (Zg (.bool (w0.b == [99, 97, 114, 100])) rfl rfl (EL_nt ?_))
   cases h9:(w0.b == [99,97,114,100]) with
   | true=>exact E_ct rfl rfl (Zu ⟨rfl,e1,e2,rfl,rfl,rfl,rfl⟩)
   | false=>
    refine E_cf rfl rfl (Za (EL_p (.bool (w0.b == [116,117,114,110,101,100])) (P_str (a:=w0) (b:=⟨[116,117,114,110,101,100]⟩) rfl rfl rfl) rfl (Zg (.bool (w0.b == [116,117,114,110,101,100])) rfl rfl ?_)));exact Zb ⟨rfl,e1,e2,rfl,rfl,rfl,rfl⟩
  rintro e ds w7' ⟨rfl,e1,e2,e3,e25,e40,rfl⟩;rcases Zt hk with ⟨hc,hk⟩ | ⟨hc,hk⟩
  ·refine E_ct hc e40 (Za (Zo e2 rfl (Zo e3 rfl (X_bnd (vs := [.pointer (some ⟨b, 0, none⟩), v]) en81 (.cons rfl (.cons rfl .nil)) .plain rfl hk (fun a ha => wk81 hT hm rW ha) (fun l e' g' w' hr hs => endP hr (hfr.stpZ hs.stpZ)) (fun y g8 w8 v hs8 hR hx8 hk => ?_)))))
   obtain ⟨rfl,hm⟩:=hR;exact Zb (blk_n (blk_n (Zd (hX y _ _ _ ⟨rfl,e1,e2,g8,hfr.stpZ hs8.stpZ,hm,b1.stpR hs8 rfl⟩ hk))))
  refine E_cf hc e40 (E_sr (EL_p (.bool (w0.b == [101,110,100])) (P_str (a:=w0) (b:=⟨[101,110,100]⟩) e25 rfl rfl) rfl (Zg (.bool (w0.b == [101,110,100])) rfl rfl (EL_nt ?_))));rcases Zt hk with ⟨hc,hk⟩ | ⟨hc,hk⟩;rotate_left
  ·refine E_cf hc rfl (Za (Zo e2 rfl (EL_p (.pointer (some ⟨b,0,none⟩)) (P_nilCheck rfl) rfl (EL_p (.pointer (some ⟨b,0,none⟩)) (P_fa at_144_0 rfl) rfl (X_bnd (vs:=[.pointer (some ⟨b,0,none⟩),Iz 4]) en61 (.cons rfl (.cons rfl .nil)) .plain rfl hk (fun a ha=>wk61 hb ha) (fun l e' g' w' hr hs=>endP hr (hfr.ext hs)) (fun y g' w' v hs hR hx h=>by cases hx))))))
  refine E_ct hc rfl (E_sr (Zo e2 rfl (Zo e3 rfl (X_bnd (vs:=[.pointer (some ⟨b,0,none⟩),v]) en82 (.cons rfl (.cons rfl .nil)) .plain rfl hk (fun a ha=>wk82 hT hm rW ha) (fun l e' g' w' hr hs=>endP hr (hfr.stp hs)) (fun y g8 w8 v hs8 hR hx8 hk=>?_)))));obtain ⟨rfl,hE⟩:=hR;obtain rfl:=sinj hk;clear hs8;have hfr:=hfr.ext hE;have b1:=b1.ext hE;obtain ⟨vT,vC,cr,hb,h2,h3,h4,h5,h6,h7⟩:=hm.ext hE;obtain ⟨g9,hs9,r9⟩:=(OA.toM h4).pub;have hfr:=hfr.stp hs9;have b1:=b1.stp hs9 rfl;have hb:RB g9 w8 b 144 q.2 [vT,vC]:=HBm.stp hb hs9 rfl;have rT:RV g9.m w8 x.mill.Ties vT:=h3.stp hs9;have rC:RV g9.m w8 x.mill.Chains vC:=RV_chains r9 h5 fun i q c a b=>let ⟨n1,n2,n3⟩:=h6 i q c a b; ⟨n1,n2,n3.stp hs9⟩;refine EL_nt (E_sr (Zo e2 rfl (EL_p (.pointer (some ⟨b,0,none⟩)) (P_nilCheck rfl) rfl (EL_p (.pointer (some ⟨b,3,none⟩)) (P_fa at_144_1 rfl) rfl ?_))))
  refine EL_d0 rfl (doe_run (v:=.agg #[vT,vC]) (fun d ty pos af gd=>L_ldX (α:=BookMill) (a:=x.mill) (o:=3) (cl:=[vT,vC]) Tryz.isAgg39 Tryz.sizeOf39 hb ⟨[_],[_],rfl,rep_of_RV rT,rep_of_RV rC⟩ (fun j u hj=>by
   match j,hj with
   | 0,hj=>exact hj
   | 1,hj=>exact hj
   | j + 2,hj=>simp at hj) _ _ g9 w8 ⟨Ch.refl _ _,fun _ _ _=>rfl⟩ rfl d ty pos af gd) ?_)
  refine EL_d0 rfl (D_storeO (g:=g9) (a':=x.mill) Tryz.sizeOf39 e1 b1 rfl ⟨[vT,vC],⟨[_],[_],rfl,rep_of_RV rT,rep_of_RV rC⟩,rfl⟩ fun g10 w10 hs10 b1=>(EL_nt (E_ret (blk_r (blk_r (thn_r (blk_r ?_)))))));exact end1c rfl rfl b1 Tryz.isAgg39 Tryz.sizeOf39 e1 fun v rv=>⟨g10,hfr.stp hs10,x.mill,rfl,rv⟩
 refine Calls.mono key ?_;rintro r w' (⟨v,rfl,g',hs,hr⟩ | ⟨c,rfl,hx,g',hs⟩)
 ·exact .inl ⟨v,rfl,_,hs.fin,hr⟩
 ·exact .inr ⟨c,rfl,hx,_,hs.fin⟩
def f26 (s:Str):Option (BookMill × Int × Int):=bif decide ((s.b.length:Int) > 30000) then some (⟨[],[]⟩,0,5) else (f77 s).bind fun a=>some (f76 a)
theorem en26:Enters Tryz.prog 26:=enters_of Tryz.func26 (by kernel_rfl) rfl
theorem wk26 (hTI:TabR gI.m wI) {s:Str} {r:BookMill × Int × Int} (h:f26 s=some r):Fn Tryz.prog 26 #[s.v] gI wI (fun m w v=>∃ y0 y1 y2,v=.tuple #[y0,y1,y2]∧RV m w r.1 y0∧y1=Iz r.2.1∧y2=Iz r.2.2):=by
 refine fnE Tryz.func26 rfl rfl fun g0 hm hfr=>?_;show E _ 14 none _ _ _ _ _;have hT:TabR g0.m wI:=hm ▸ hTI;unfold f26 at h;refine E_sr (EL_d0 rfl (D_box (g:=g0) (a:=s) rfl (RV_str.2 rfl) fun g1 w1 p hs1 hp=>(EL_d0 rfl (D_allocX (g:=g1) 5 (⟨[],[]⟩:BookMill) Tryz.zeroValue39 rz_BookMill fun g2 w2 p2 hs2 b2=>(Zg (Iz 0) rfl rfl (Zg (Iz 0) rfl rfl ?_))))));have hp:=hp.ext hs2;have hfr:=(hfr.ext hs1).ext hs2;refine EL_nt (Zf (E_sr (EL_d0 rfl (D_load Tryz.isAgg9 Tryz.sizeOf9 rfl hp fun v rv=>?_))));obtain rfl:=RV_str.1 rv;refine EL_p (Iz (s.b.length:Int)) (P_lenS Tryz.underlying9 rfl) rfl (EL_in (.bool (decide ((s.b.length:Int) > 30000))) rfl rfl rfl rfl (EL_nt ?_));rcases Zt h with ⟨hc,h⟩ | ⟨hc,h⟩
 ·obtain rfl := sinj h
  refine E_ct hc rfl (E_sr (EL_d0 rfl (D_loadO Tryz.isAgg39 Tryz.sizeOf39 rfl b2 fun v rv=>(EL_d0 rfl (D_storeO (g:=g2) (a':=(⟨[],[]⟩:BookMill)) Tryz.sizeOf39 rfl b2 rfl rv fun g3 w3 hs3 b2=>(Zg (Iz 0) rfl rfl (Zg (Iz 5) rfl rfl (EL_nt (E_ret (thn_r ?_))))))))));exact end1c2 rfl rfl b2 Tryz.isAgg39 Tryz.sizeOf39 rfl rfl rfl fun v rv=>⟨g3,hfr.stp hs3,v,_,_,rfl,rv,rfl,rfl⟩
 obtain ⟨a,ha,h⟩:=bsome h;obtain rfl:=sinj h;refine E_cf hc rfl (Zu (Zd (E_sr (EL_p (.func (.func 77) #[] #[p]) (P_makeFunc (by simp; rfl)) rfl (EL_d0 rfl (Zp (g:=g2) (vs:=[.func (.func 77) #[] #[p]]) en76 (.cons rfl .nil) (wk76 (gI:=g2) (first:=#[]) (caps:=#[p]) en77 (a:=a) fun g w hc=>wk77 (hT.ch (hs1.ch.trans (hs2.ch.trans hc))) (hp.ch hc) ha) fun g3 w3 v hs3 hv=>?_))))));obtain ⟨y,rfl,ry⟩:=hv;refine EL_p (y) (Zi rfl rfl) rfl (EL_p (Iz (f76 a).2.1) (Zi rfl rfl) rfl (EL_p (Iz (f76 a).2.2) (Zi rfl rfl) rfl (EL_d0 rfl (D_storeO (g:=g3) (a':=(f76 a).1) Tryz.sizeOf39 rfl (b2.ext hs3) rfl ry fun g4 w4 hs4 b2=>(Zg (Iz (f76 a).2.1) rfl rfl (Zg (Iz (f76 a).2.2) rfl rfl (EL_nt (E_ret ?_))))))));exact end1c2 rfl rfl b2 Tryz.isAgg39 Tryz.sizeOf39 rfl rfl rfl fun v rv=>⟨g4,(hfr.ext hs3).stp hs4,v,_,_,rfl,rv,rfl,rfl⟩
end

noncomputable def f13 :Option (Bool):=
 (f15 ((⟨(3:Int),([(3:Int),(4:Int)]:List Int)⟩:Design))).bind fun y4=>
 (f19 ((⟨[120,120,46,10,46,46,120,10]⟩:Str))).bind fun y6=>
 (f52).bind fun rN=>
 (f23 rN).bind fun oB=>
 (f26 ((⟨[109,105,108,108,10,116,105,101,32,112,108,97,105,110,32,50,32,48,32,49,32,48,10,99,104,97,105,110,32,116,119,105,108,108,32,50,10,99,97,114,100,32,48,32,120,46,10,116,117,114,110,101,100,32,63,32,120,46,10,101,110,100,32,53,32,52,53,49,51,10]⟩:Str))).bind fun lD=>
 (f31 (([(⟨(258:Int),(3:Int),0,0,(5:Int)⟩:BookCloth)]:List BookCloth))).bind fun nD=>
 (f32 (([(1:UInt8),(2:UInt8),(3:UInt8),(0:UInt8),(0:UInt8),(5:UInt8),(11:UInt8),(44:UInt8)]:List UInt8))).bind fun y23=>
 (f37 (([(1:UInt8),(2:UInt8),(3:UInt8),(0:UInt8),(0:UInt8),(6:UInt8),(11:UInt8),(44:UInt8)]:List UInt8))).bind fun zB=>
 (f53 ((0:Int)) ((3:Int))).bind fun zJ=>
 (f31 (([zJ]:List BookCloth))).bind fun nB=>
 (f53 ((5:Int)) ((2:Int))).bind fun aK=>
 (f31 (([aK]:List BookCloth))).bind fun aB=>
 (f42 (([aB.1,nB.1,aB.1]:List (List UInt8)))).bind fun bD=>
 (f52).bind fun sN=>
 (f43 sN (([aB.1,nB.1]:List (List UInt8)))).bind fun y44=>
 jn (σ:=Unit) (fun _=>
  jn (σ:=Unit) (fun _=>
   Option.bind (α:=Bool) (
    (apnd 1 (([]:List UInt8)) (nB.1)).bind fun bK=>
    (apnd 1 bK (aB.1)).bind fun cK=>
    (f36 (bD.1) cK).bind fun cH=>
    bif cH then
     bif (((y44.1).length : Int) == (16 : Int)) then
      (idx (y44.1) (0:Int)).bind fun rF=>
      bif (((rF).length : Int) == (5 : Int)) then
       (idx (y44.1) (0:Int)).bind fun dK=>
       (idx dK (0:Int)).bind fun yF=>
       bif ((yF).b == ((⟨[120, 46, 120]⟩ : Str)).b) then
        (idx (y44.1) (0:Int)).bind fun lK=>
        (idx lK (3:Int)).bind fun gG=>
        some (((gG).b == ((⟨[46,120,46]⟩:Str)).b))
       else
        none
      else
       none
     else
      none
    else
     none
    ) fun tF=>
   some (tF)
   ) fun mK=>
  Option.bind (α:=Bool) (
   bif (!((y4.1).b == ((⟨[120, 120, 46, 10, 46, 46, 120, 10]⟩ : Str)).b)) then
    none
   else
    (f18 (y6.1) ((⟨(3:Int),([(3:Int),(4:Int)]:List Int)⟩:Design))).bind fun xE=>
    bif (!xE) then
     none
    else
     bif (!((oB.1).b == ((⟨[109, 105, 108, 108, 10, 116, 105, 101, 32, 112, 108, 97, 105, 110, 32, 50, 32, 48, 32, 49, 32, 48, 10, 99, 104, 97, 105, 110, 32, 116, 119, 105, 108, 108, 32, 50, 10, 99, 97, 114, 100, 32, 48, 32, 120, 46, 10, 116, 117, 114, 110, 101, 100, 32, 63, 32, 120, 46, 10, 101, 110, 100, 32, 53, 32, 52, 53, 49, 51, 10]⟩ : Str)).b)) then
      none
     else
      (f52).bind fun aG=>
      (f24 (lD.1) aG).bind fun yE=>
      bif (!yE) then
       none
      else
       (f36 (nD.1) (([(1:UInt8),(2:UInt8),(3:UInt8),(0:UInt8),(0:UInt8),(5:UInt8),(11:UInt8),(44:UInt8)]:List UInt8))).bind fun zE=>
       bif (!zE) then
        none
       else
        bif (((y23.1).length : Int) != (1 : Int)) then
         none
        else
         (idx (y23.1) (0:Int)).bind fun sF=>
         bif ((sF).Day != (258 : Int)) then
          none
         else
          bif (((zB.1).length : Int) != (1 : Int)) then
           none
          else
           (idx (zB.1) (0:Int)).bind fun iG=>
           some (((iG).Picks != (5:Int)))
   ) fun yD=>
  bif yD then
   some (false)
  else
   mK ()
  ) fun tN=>
 Option.bind (α:=Bool) (
  bif (y4.2 != (0 : Int)) then
   none
  else
   bif (y6.2.2 != (0 : Int)) then
    none
   else
    bif (oB.2 != (0 : Int)) then
     none
    else
     bif (lD.2.2 != (0 : Int)) then
      none
     else
      bif (nD.2.2 != (0 : Int)) then
       none
      else
       bif (y23.2.2 != (0 : Int)) then
        none
       else
        bif (zB.2 != (0 : Int)) then
         none
        else
         bif (nB.2.2 != (0 : Int)) then
          none
         else
          bif (aB.2.2 != (0 : Int)) then
           none
          else
           bif (bD.2.2 != (0 : Int)) then
            none
           else
            some ((y44.2.2 != (0:Int)))
  ) fun iE=>
 bif iE then
  some (false)
 else
  tN ()
theorem en13:Enters Tryz.prog 13:=enters_of Tryz.func13 (by kernel_rfl) rfl
theorem wk13 {gI:Gh} {wI:World} (hTI:TabE 0 1 4 5 gI.m wI)   {r:Bool} (h:f13 =some r):Fn Tryz.prog 13 #[] gI wI (fun _ _ v=>v=.bool (r)):=by
 unfold f13 at h;refine fnE Tryz.func13 rfl rfl fun g0 hm hfr=>?_;show E _ 228 none _ _ _ _ _;refine E_sr (Zg (.bool false) rfl rfl (EL_nt (E_sr (EL_d0 rfl (D_buildSlice (g:=g0) 3032 (xs:=([(3:Int),(4:Int)]:List Int)) (vs:=[Iz (3),Iz (4)]) Tryz.underlying22 Tryz.sizeOf3 Tryz.zeroValue3 rfl rfl (.cons rfl (.cons rfl .nil)) (RVs.cons (Zj.2 rfl) (RVs.cons (Zj.2 rfl) RVs.nil)) rfl rfl fun g1 w1 v1 hs o1 r1 hxt hfl=>?_)))));have hfr:=hfr.stp hs;have r2:RV g1.m _ (⟨(3:Int),([(3:Int),(4:Int)]:List Int)⟩:Design) (.agg (setCh [[Iz 0],[.slice none 0 0]] [(0,Iz (3)),(1,v1)]).flatten.toArray):=RV_build rfl (rep_pair (rfl) (rep_last (RV.cells r1)));generalize hv2:(Value.agg (setCh [[Iz 0],[.slice none 0 0]] [(0,Iz (3)),(1,v1)]).flatten.toArray)=v2 at r2;refine EL_p v2 (hv2 ▸ P_build (vs:=[(0,Iz (3)),(1,v1)]) [[Iz 0],[.slice none 0 0]] lay_24 rfl rfl (.cons rfl (.cons rfl .nil)) ⟨⟨_,rfl,rfl⟩,⟨⟨_,rfl,cells_size r1⟩,trivial⟩⟩) rfl ?_;obtain ⟨y4,vP,h⟩:=bsome h;refine EL_d0 rfl (Zp (g:=g1) (vs:=[v2]) en15 (.cons rfl .nil) (wk15 r2 vP) fun g3 w3_ v3 hs hr=>?_);have hfr:=hfr.ext hs;obtain ⟨mT,nT,rfl,rfl,rfl⟩:=hr;refine Zn (.tuple #[Str.v (y4.1),Iz (y4.2)]) rfl rfl (EL_p (Str.v (y4.1)) (Zi rfl rfl) rfl (EL_p (Iz (y4.2)) (Zi rfl rfl) rfl (Zg (Str.v (y4.1)) rfl rfl (Zg (Iz (y4.2)) rfl rfl (EL_nt (E_sr ?_))))));obtain ⟨y6,xP,h⟩:=bsome h;refine EL_d0 rfl (Zp (g:=g3) (vs:=[Str.v (⟨[120,120,46,10,46,46,120,10]⟩:Str)]) en19 (.cons rfl .nil) (wk19 (hTI.ch hfr.ch)  xP) fun g5 w5_ v5 hs hr=>?_);have hfr:=hfr.ext hs;obtain ⟨dI,oT,pT,rfl,iI,rfl,rfl⟩:=hr;refine Zn (.tuple #[dI,Iz (y6.2.1),Iz (y6.2.2)]) rfl rfl (EL_p dI (Zi rfl rfl) rfl (EL_p (Iz (y6.2.1)) (Zi rfl rfl) rfl (EL_p (Iz (y6.2.2)) (Zi rfl rfl) rfl (EL_d0 rfl (D_allocOc (g:=g5) 2003 (⟨0,[]⟩:Design) Tryz.zeroValue24 (fun m w=>⟨_,(rep_two rep_int rep_nil),rfl⟩) fun g7 w7 p7 hs b7 cb=>?_)))));have hfr:=hfr.stp hs;have iI:=iI.stp hs;have sT:OSF 2003 60301 1 g7 w7 3 24 ([]:List Int) p7:=cb.osf (by rfl);clear cb;refine EL_d0 rfl (D_storeOc (g:=g7) (v:=dI) Tryz.sizeOf24 rfl b7 rfl iI fun g8 w8 hs b8 cb=>?_);clear cb;have hfr:=hfr.stp hs;refine Zg (Iz (y6.2.1)) rfl rfl (Zg (Iz (y6.2.2)) rfl rfl (EL_nt (E_sr ?_)));obtain ⟨rN,yN,h⟩:=bsome h;refine EL_d0 rfl (Zp (g:=g8) (vs:=[]) en52 .nil (wk52  yN) fun g9 w9_ v9 hs hr=>?_);have hfr:=hfr.ext hs;have b8:=b8.ext hs;have r9:=hr;obtain ⟨oB,zN,h⟩:=bsome h;refine EL_d0 rfl (Zp (g:=g9) (vs:=[v9]) en23 (.cons rfl .nil) (wk23 (hTI.ch hfr.ch).tab r9 zN) fun g11 tT lV hs hr=>?_);have hfr:=hfr.ext hs;have b8:=b8.ext hs;obtain ⟨aS,cS,rfl,rfl,rfl⟩:=hr;refine Zn (.tuple #[Str.v (oB.1),Iz (oB.2)]) rfl rfl (EL_p (Str.v (oB.1)) (Zi rfl rfl) rfl (EL_p (Iz (oB.2)) (Zi rfl rfl) rfl (Zg (Str.v (oB.1)) rfl rfl (Zg (Iz (oB.2)) rfl rfl (EL_nt (E_sr ?_))))));obtain ⟨lD,aO,h⟩:=bsome h;refine EL_d0 rfl (Zp (g:=g11) (vs:=[Str.v (⟨[109,105,108,108,10,116,105,101,32,112,108,97,105,110,32,50,32,48,32,49,32,48,10,99,104,97,105,110,32,116,119,105,108,108,32,50,10,99,97,114,100,32,48,32,120,46,10,116,117,114,110,101,100,32,63,32,120,46,10,101,110,100,32,53,32,52,53,49,51,10]⟩:Str)]) en26 (.cons rfl .nil) (wk26 (hTI.ch hfr.ch)  aO) fun yP uT mV hs hr=>?_);have hfr:=hfr.ext hs;have b8:=b8.ext hs;obtain ⟨gH,dS,eS,rfl,jH,rfl,rfl⟩:=hr;refine Zn (.tuple #[gH,Iz (lD.2.1),Iz (lD.2.2)]) rfl rfl (EL_p gH (Zi rfl rfl) rfl (EL_p (Iz (lD.2.1)) (Zi rfl rfl) rfl (EL_p (Iz (lD.2.2)) (Zi rfl rfl) rfl (EL_d0 rfl (D_allocOc (g:=yP) 2008 (⟨[],[]⟩:BookMill) Tryz.zeroValue39 (fun m w=>⟨_,(rep_two rep_nil rep_nil),rfl⟩) fun nK w15 zG hs b15 cb=>?_)))));have hfr:=hfr.stp hs;have b8:=b8.stp hs rfl;have jH:=jH.stp hs;have gS:OSF 2008 60800 0 nK w15 108 39 ([]:List BookTie) zG:=cb.osf (by rfl);have iS:OSF 2008 60801 1 nK w15 94 39 ([]:List BookChain) zG:=cb.osf (by rfl);clear cb;refine EL_d0 rfl (D_storeOc (g:=nK) (v:=gH) Tryz.sizeOf39 rfl b15 rfl jH fun uN zP hs b16 cb=>?_);clear cb;have hfr:=hfr.stp hs;have b8:=b8.stp hs rfl;refine Zg (Iz (lD.2.1)) rfl rfl (Zg (Iz (lD.2.2)) rfl rfl (EL_nt (E_sr ?_)));have vN:RV uN.m zP (⟨(258:Int),(3:Int),0,0,(5:Int)⟩:BookCloth) (.agg (setCh [[Iz 0],[Iz 0],[Iz 0],[Iz 0],[Iz 0]] [(0,Iz (258)),(1,Iz (3)),(4,Iz (5))]).flatten.toArray):=RV_build rfl (rep_pair (rfl) (rep_pair (rfl) (rep_pair (rep_int) (rep_pair (rep_int) (rep_last (rfl))))))
 generalize bO:(Value.agg (setCh [[Iz 0],[Iz 0],[Iz 0],[Iz 0],[Iz 0]] [(0,Iz (258)),(1,Iz (3)),(4,Iz (5))]).flatten.toArray)=xN at vN;refine EL_p xN (bO ▸ P_build (vs:=[(0,Iz (258)),(1,Iz (3)),(4,Iz (5))]) [[Iz 0],[Iz 0],[Iz 0],[Iz 0],[Iz 0]] lay_63 rfl rfl (.cons rfl (.cons rfl (.cons rfl .nil))) ⟨⟨_,rfl,rfl⟩,⟨⟨_,rfl,rfl⟩,⟨⟨_,rfl,rfl⟩,trivial⟩⟩⟩) rfl (EL_d0 rfl (D_buildSlice (g:=uN) 3054 (xs:=([(⟨(258:Int),(3:Int),0,0,(5:Int)⟩:BookCloth)]:List BookCloth)) (vs:=[xN]) Tryz.underlying49 Tryz.sizeOf63 Tryz.zeroValue63 rfl rfl (.cons rfl .nil) (RVs.cons vN RVs.nil) rfl rfl fun bQ nV cQ hs o18 dQ hxt hfl=>?_));have hfr:=hfr.stp hs;have b8:=b8.stp hs rfl;have b16:=b16.stp hs rfl;obtain ⟨nD,hy20,h⟩:=bsome h;refine EL_d0 rfl (Zp (g:=bQ) (vs:=[cQ]) en31 (.cons rfl .nil) (wk31 dQ hy20) fun eQ xT oV hs hr=>?_);have hfr:=hfr.ext hs;have b8:=b8.ext hs;have b16:=b16.ext hs;obtain ⟨oD,jS,lS,rfl,o0,rfl,rfl⟩:=hr;refine Zn (.tuple #[oD,Iz (nD.2.1),Iz (nD.2.2)]) rfl rfl (EL_p oD (Zi rfl rfl) rfl (EL_p (Iz (nD.2.1)) (Zi rfl rfl) rfl (EL_p (Iz (nD.2.2)) (Zi rfl rfl) rfl (Zg oD rfl rfl (Zg (Iz (nD.2.1)) rfl rfl (Zg (Iz (nD.2.2)) rfl rfl (EL_nt (E_sr (EL_d0 rfl (D_buildSlice (g:=eQ) 3060 (xs:=([(1:UInt8),(2:UInt8),(3:UInt8),(0:UInt8),(0:UInt8),(5:UInt8),(11:UInt8),(44:UInt8)]:List UInt8)) (vs:=[.int .u8 (UInt8.toNat 1),.int .u8 (UInt8.toNat 2),.int .u8 (UInt8.toNat 3),.int .u8 (UInt8.toNat 0),.int .u8 (UInt8.toNat 0),.int .u8 (UInt8.toNat 5),.int .u8 (UInt8.toNat 11),.int .u8 (UInt8.toNat 44)]) Tryz.underlying50 Tryz.sizeOf5 Tryz.zeroValue5 rfl rfl (.cons rfl (.cons rfl (.cons rfl (.cons rfl (.cons rfl (.cons rfl (.cons rfl (.cons rfl .nil)))))))) (RVs.cons (RV_u8.2 rfl) (RVs.cons (RV_u8.2 rfl) (RVs.cons (RV_u8.2 rfl) (RVs.cons (RV_u8.2 rfl) (RVs.cons (RV_u8.2 rfl) (RVs.cons (RV_u8.2 rfl) (RVs.cons (RV_u8.2 rfl) (RVs.cons (RV_u8.2 rfl) RVs.nil)))))))) rfl rfl fun gQ pV iQ hs o21 jQ hxt hfl=>?_))))))))));have hfr:=hfr.stp hs;have b8:=b8.stp hs rfl;have b16:=b16.stp hs rfl;have o0:=o0.stp hs;obtain ⟨y23,cO,h⟩:=bsome h;refine EL_d0 rfl (Zp (g:=gQ) (vs:=[iQ]) en32 (.cons rfl .nil) (wk32 jQ cO) fun kQ yT qV hs hr=>?_);have hfr:=hfr.ext hs;have b8:=b8.ext hs;have b16:=b16.ext hs;have o0:=o0.ext hs;obtain ⟨cC,mS,nS,rfl,l5,rfl,rfl⟩:=hr;refine Zn (.tuple #[cC,Iz (y23.2.1),Iz (y23.2.2)]) rfl rfl (EL_p cC (Zi rfl rfl) rfl (EL_p (Iz (y23.2.1)) (Zi rfl rfl) rfl (EL_p (Iz (y23.2.2)) (Zi rfl rfl) rfl (Zg cC rfl rfl (Zg (Iz (y23.2.1)) rfl rfl (Zg (Iz (y23.2.2)) rfl rfl (EL_nt (E_sr (EL_d0 rfl (D_buildSlice (g:=kQ) 3066 (xs:=([(1:UInt8),(2:UInt8),(3:UInt8),(0:UInt8),(0:UInt8),(6:UInt8),(11:UInt8),(44:UInt8)]:List UInt8)) (vs:=[.int .u8 (UInt8.toNat 1),.int .u8 (UInt8.toNat 2),.int .u8 (UInt8.toNat 3),.int .u8 (UInt8.toNat 0),.int .u8 (UInt8.toNat 0),.int .u8 (UInt8.toNat 6),.int .u8 (UInt8.toNat 11),.int .u8 (UInt8.toNat 44)]) Tryz.underlying50 Tryz.sizeOf5 Tryz.zeroValue5 rfl rfl (.cons rfl (.cons rfl (.cons rfl (.cons rfl (.cons rfl (.cons rfl (.cons rfl (.cons rfl .nil)))))))) (RVs.cons (RV_u8.2 rfl) (RVs.cons (RV_u8.2 rfl) (RVs.cons (RV_u8.2 rfl) (RVs.cons (RV_u8.2 rfl) (RVs.cons (RV_u8.2 rfl) (RVs.cons (RV_u8.2 rfl) (RVs.cons (RV_u8.2 rfl) (RVs.cons (RV_u8.2 rfl) RVs.nil)))))))) rfl rfl fun lQ rV mQ hs o24 nQ hxt hfl=>?_))))))))));have hfr:=hfr.stp hs;have b8:=b8.stp hs rfl;have b16:=b16.stp hs rfl;have o0:=o0.stp hs;have l5:=l5.stp hs;obtain ⟨zB,dO,h⟩:=bsome h;refine EL_d0 rfl (Zp (g:=lQ) (vs:=[mQ]) en37 (.cons rfl .nil) (wk37 nQ dO) fun oQ zT sV hs hr=>?_);have hfr:=hfr.ext hs;have b8:=b8.ext hs;have b16:=b16.ext hs;have o0:=o0.ext hs;have l5:=l5.ext hs;obtain ⟨uC,oS,rfl,t5,rfl⟩:=hr;refine Zn (.tuple #[uC,Iz (zB.2)]) rfl rfl (EL_p uC (Zi rfl rfl) rfl (EL_p (Iz (zB.2)) (Zi rfl rfl) rfl (Zg uC rfl rfl (Zg (Iz (zB.2)) rfl rfl (EL_nt (E_sr ?_))))));obtain ⟨zJ,eO,h⟩:=bsome h;refine EL_d0 rfl (Zp (g:=oQ) (vs:=[Iz (0),Iz (3)]) en53 (.cons rfl (.cons rfl .nil)) (wk53  eO) fun pQ aU qQ hs hr=>?_);have hfr:=hfr.ext hs;have b8:=b8.ext hs;have b16:=b16.ext hs;have o0:=o0.ext hs
 have l5:=l5.ext hs;have t5:=t5.ext hs;have rQ:=hr;refine EL_d0 rfl (D_buildSlice (g:=pQ) 3072 (xs:=([zJ]:List BookCloth)) (vs:=[qQ]) Tryz.underlying49 Tryz.sizeOf63 Tryz.zeroValue63 rfl rfl (.cons rfl .nil) (RVs.cons rQ RVs.nil) rfl rfl fun sQ w29 tQ hs o29 uQ hxt hfl=>?_);have hfr:=hfr.stp hs;have b8:=b8.stp hs rfl;have b16:=b16.stp hs rfl;have o0:=o0.stp hs;have l5:=l5.stp hs;have t5:=t5.stp hs;obtain ⟨nB,gO,h⟩:=bsome h;refine EL_d0 rfl (Zp (g:=sQ) (vs:=[tQ]) en31 (.cons rfl .nil) (wk31 uQ gO) fun vQ bU tV hs hr=>?_);have hfr:=hfr.ext hs;have b8:=b8.ext hs;have b16:=b16.ext hs;have o0:=o0.ext hs;have l5:=l5.ext hs;have t5:=t5.ext hs;obtain ⟨n9,pS,qS,rfl,l8,rfl,rfl⟩:=hr;refine Zn (.tuple #[n9,Iz (nB.2.1),Iz (nB.2.2)]) rfl rfl (EL_p n9 (Zi rfl rfl) rfl (EL_p (Iz (nB.2.1)) (Zi rfl rfl) rfl (EL_p (Iz (nB.2.2)) (Zi rfl rfl) rfl (Zg n9 rfl rfl (Zg (Iz (nB.2.1)) rfl rfl (Zg (Iz (nB.2.2)) rfl rfl (EL_nt (E_sr ?_))))))));obtain ⟨aK,jO,h⟩:=bsome h;refine EL_d0 rfl (Zp (g:=vQ) (vs:=[Iz (5),Iz (2)]) en53 (.cons rfl (.cons rfl .nil)) (wk53  jO) fun xQ cU yQ hs hr=>?_);have hfr:=hfr.ext hs;have b8:=b8.ext hs;have b16:=b16.ext hs;have o0:=o0.ext hs;have l5:=l5.ext hs;have t5:=t5.ext hs;have l8:=l8.ext hs;have zQ:=hr;refine EL_d0 rfl (D_buildSlice (g:=xQ) 3079 (xs:=([aK]:List BookCloth)) (vs:=[yQ]) Tryz.underlying49 Tryz.sizeOf63 Tryz.zeroValue63 rfl rfl (.cons rfl .nil) (RVs.cons zQ RVs.nil) rfl rfl fun aR uV dR hs o34 eR hxt hfl=>?_);have hfr:=hfr.stp hs;have b8:=b8.stp hs rfl;have b16:=b16.stp hs rfl;have o0:=o0.stp hs;have l5:=l5.stp hs;have t5:=t5.stp hs;have l8:=l8.stp hs;obtain ⟨aB,kO,h⟩:=bsome h;refine EL_d0 rfl (Zp (g:=aR) (vs:=[dR]) en31 (.cons rfl .nil) (wk31 eR kO) fun gR dU vV hs hr=>?_);have hfr:=hfr.ext hs;have b8:=b8.ext hs;have b16:=b16.ext hs;have o0:=o0.ext hs;have l5:=l5.ext hs;have t5:=t5.ext hs;have l8:=l8.ext hs;obtain ⟨l9,rS,sS,rfl,lB,rfl,rfl⟩:=hr;refine Zn (.tuple #[l9,Iz (aB.2.1),Iz (aB.2.2)]) rfl rfl (EL_p l9 (Zi rfl rfl) rfl (EL_p (Iz (aB.2.1)) (Zi rfl rfl) rfl (EL_p (Iz (aB.2.2)) (Zi rfl rfl) rfl (Zg l9 rfl rfl (Zg (Iz (aB.2.1)) rfl rfl (Zg (Iz (aB.2.2)) rfl rfl (EL_nt (E_sr (Zn l9 rfl rfl (Zn n9 rfl rfl (Zn l9 rfl rfl (EL_d0 rfl (D_buildSlice (g:=gR) 3088 (xs:=([aB.1,nB.1,aB.1]:List (List UInt8))) (vs:=[l9,n9,l9]) Tryz.underlying69 Tryz.sizeOf50 Tryz.zeroValue50 rfl rfl (.cons rfl (.cons rfl (.cons rfl .nil))) (RVs.cons lB (RVs.cons l8 (RVs.cons lB RVs.nil))) rfl rfl fun iR xV jR hs o37 lR hxt hfl=>?_)))))))))))));have hfr:=hfr.stp hs;have b8:=b8.stp hs rfl;have b16:=b16.stp hs rfl;have o0:=o0.stp hs;have l5:=l5.stp hs;have t5:=t5.stp hs;have l8:=l8.stp hs;have lB:=lB.stp hs;obtain ⟨bD,lO,h⟩:=bsome h;refine EL_d0 rfl (Zp (g:=iR) (vs:=[jR]) en42 (.cons rfl .nil) (wk42 lR lO) fun mR eU yV hs hr=>?_);have hfr:=hfr.ext hs;have b8:=b8.ext hs;have b16:=b16.ext hs;have o0:=o0.ext hs;have l5:=l5.ext hs;have t5:=t5.ext hs;have l8:=l8.ext hs;have lB:=lB.ext hs;obtain ⟨yB,tS,uS,rfl,mE,rfl,rfl⟩:=hr;refine Zn (.tuple #[yB,Iz (bD.2.1),Iz (bD.2.2)]) rfl rfl (EL_p yB (Zi rfl rfl) rfl (EL_p (Iz (bD.2.1)) (Zi rfl rfl) rfl (EL_p (Iz (bD.2.2)) (Zi rfl rfl) rfl (Zg yB rfl rfl (Zg (Iz (bD.2.1)) rfl rfl (Zg (Iz (bD.2.2)) rfl rfl (EL_nt (E_sr ?_))))))));obtain ⟨sN,mO,h⟩:=bsome h;refine EL_d0 rfl (Zp (g:=mR) (vs:=[]) en52 .nil (wk52  mO) fun nR gU pR hs hr=>?_);have hfr:=hfr.ext hs;have b8:=b8.ext hs;have b16:=b16.ext hs;have o0:=o0.ext hs;have l5:=l5.ext hs;have t5:=t5.ext hs;have l8:=l8.ext hs;have lB:=lB.ext hs;have mE:=mE.ext hs;have oK:=hr;refine Zn l9 rfl rfl (Zn n9 rfl rfl (EL_d0 rfl (D_buildSlice (g:=nR) 3097 (xs:=([aB.1,nB.1]:List (List UInt8))) (vs:=[l9,n9]) Tryz.underlying69 Tryz.sizeOf50 Tryz.zeroValue50 rfl rfl (.cons rfl (.cons rfl .nil)) (RVs.cons lB (RVs.cons l8 RVs.nil)) rfl rfl fun qR zV tR hs o42 uR hxt hfl=>?_)));have hfr:=hfr.stp hs;have b8:=b8.stp hs rfl;have b16:=b16.stp hs rfl;have o0:=o0.stp hs;have l5:=l5.stp hs;have t5:=t5.stp hs;have l8:=l8.stp hs;have lB:=lB.stp hs;have mE:=mE.stp hs;have oK:=oK.stp hs;obtain ⟨y44,nO,h⟩:=bsome h
 refine EL_d0 rfl (Zp (g:=qR) (vs:=[pR,tR]) en43 (.cons rfl (.cons rfl .nil)) (wk43 oK uR nO) fun xR iU aW hs hr=>?_);have hfr:=hfr.ext hs;have b8:=b8.ext hs;have b16:=b16.ext hs;have o0:=o0.ext hs;have l5:=l5.ext hs;have t5:=t5.ext hs;have l8:=l8.ext hs;have lB:=lB.ext hs;have mE:=mE.ext hs;obtain ⟨n8,vS,xS,rfl,iM,rfl,rfl⟩:=hr;refine Zn (.tuple #[n8,Iz (y44.2.1),Iz (y44.2.2)]) rfl rfl (EL_p n8 (Zi rfl rfl) rfl (EL_p (Iz (y44.2.1)) (Zi rfl rfl) rfl (EL_p (Iz (y44.2.2)) (Zi rfl rfl) rfl (Zg n8 rfl rfl (Zg (Iz (y44.2.1)) rfl rfl (Zg (Iz (y44.2.2)) rfl rfl (EL_nt (Zq h (fun (s:Unit) e w=>∃ (g:Gh) ,Fr gI wI g w∧e 1=Str.v (y4.1)∧e 3=p7∧OB 2003 g w 24 (y6.1:Design) p7∧e 6=Str.v (oB.1)∧e 8=zG∧OB 2008 g w 39 (lD.1:BookMill) zG∧e 11=oD∧RV g.m w (nD.1:List UInt8) oD∧e 14=cC∧RV g.m w (y23.1:List BookCloth) cC∧e 17=uC∧RV g.m w (zB.1:List BookCloth) uC∧e 19=n9∧RV g.m w (nB.1:List UInt8) n9∧e 22=l9∧RV g.m w (aB.1:List UInt8) l9∧e 25=yB∧RV g.m w (bD.1:List UInt8) yB∧e 28=n8∧RV g.m w (y44.1:List (List Str)) n8) (fun X68 tN oO h=>?_) ?_))))))))
 ·obtain ⟨iE, hx, h⟩ := bsome h
  refine E_join (fun e w=>∃ (g:Gh) ,Fr gI wI g w∧e 1=Str.v (y4.1)∧e 3=p7∧OB 2003 g w 24 (y6.1:Design) p7∧e 6=Str.v (oB.1)∧e 8=zG∧OB 2008 g w 39 (lD.1:BookMill) zG∧e 11=oD∧RV g.m w (nD.1:List UInt8) oD∧e 14=cC∧RV g.m w (y23.1:List BookCloth) cC∧e 17=uC∧RV g.m w (zB.1:List BookCloth) uC∧e 19=n9∧RV g.m w (nB.1:List UInt8) n9∧e 22=l9∧RV g.m w (aB.1:List UInt8) l9∧e 25=yB∧RV g.m w (bD.1:List UInt8) yB∧e 28=n8∧RV g.m w (y44.1:List (List Str)) n8∧e 143=.bool (iE)) (fun Q' hQ=>?_) (fun jU bW hR=>?_)
  ·replace h := hx
   clear hx;refine Za (Zn (Iz (y4.2)) rfl rfl (EL_in (.bool ((y4.2 != (0:Int)))) rfl rfl rfl rfl (Zn (.bool ((y4.2 != (0:Int)))) rfl rfl ?_)));rcases Zt h with ⟨kH,h⟩ | ⟨kH,h⟩
   ·cases h
   ·refine EL_y (Iz (y6.2.2)) (Zk rfl) rfl rfl kH rfl (EL_y (.bool ((y6.2.2 != (0 : Int)))) (P_int rfl rfl rfl) rfl rfl kH rfl (EL_p (.bool ((y6.2.2 != (0 : Int)))) (Zl (b := (y4.2 != (0 : Int))) rfl (pick_f kH rfl)) rfl (Zn (.bool ((y6.2.2 != (0 : Int)))) rfl rfl ?_)))
    rcases Zt h with ⟨lH,h⟩ | ⟨lH,h⟩
    ·cases h
    ·refine EL_y (Iz (oB.2)) (Zk rfl) rfl rfl lH rfl (EL_y (.bool ((oB.2 != (0 : Int)))) (P_int rfl rfl rfl) rfl rfl lH rfl (EL_p (.bool ((oB.2 != (0 : Int)))) (Zl (b := (y6.2.2 != (0 : Int))) rfl (pick_f lH rfl)) rfl (Zn (.bool ((oB.2 != (0 : Int)))) rfl rfl ?_)))
     rcases Zt h with ⟨mH,h⟩ | ⟨mH,h⟩
     ·cases h
     ·refine EL_y (Iz (lD.2.2)) (Zk rfl) rfl rfl mH rfl (EL_y (.bool ((lD.2.2 != (0 : Int)))) (P_int rfl rfl rfl) rfl rfl mH rfl (EL_p (.bool ((lD.2.2 != (0 : Int)))) (Zl (b := (oB.2 != (0 : Int))) rfl (pick_f mH rfl)) rfl (Zn (.bool ((lD.2.2 != (0 : Int)))) rfl rfl ?_)))
      rcases Zt h with ⟨nH,h⟩ | ⟨nH,h⟩
      ·cases h
      ·refine EL_y (Iz (nD.2.2)) (Zk rfl) rfl rfl nH rfl (EL_y (.bool ((nD.2.2 != (0 : Int)))) (P_int rfl rfl rfl) rfl rfl nH rfl (EL_p (.bool ((nD.2.2 != (0 : Int)))) (Zl (b := (lD.2.2 != (0 : Int))) rfl (pick_f nH rfl)) rfl (Zn (.bool ((nD.2.2 != (0 : Int)))) rfl rfl ?_)))
       rcases Zt h with ⟨oH,h⟩ | ⟨oH,h⟩
       ·cases h
       ·refine EL_y (Iz (y23.2.2)) (Zk rfl) rfl rfl oH rfl (EL_y (.bool ((y23.2.2 != (0 : Int)))) (P_int rfl rfl rfl) rfl rfl oH rfl (EL_p (.bool ((y23.2.2 != (0 : Int)))) (Zl (b := (nD.2.2 != (0 : Int))) rfl (pick_f oH rfl)) rfl (Zn (.bool ((y23.2.2 != (0 : Int)))) rfl rfl ?_)))
        rcases Zt h with ⟨pH,h⟩ | ⟨pH,h⟩
        ·cases h
        ·refine EL_y (Iz (zB.2)) (Zk rfl) rfl rfl pH rfl (EL_y (.bool ((zB.2 != (0 : Int)))) (P_int rfl rfl rfl) rfl rfl pH rfl (EL_p (.bool ((zB.2 != (0 : Int)))) (Zl (b := (y23.2.2 != (0 : Int))) rfl (pick_f pH rfl)) rfl (Zn (.bool ((zB.2 != (0 : Int)))) rfl rfl ?_)))
         rcases Zt h with ⟨qH,h⟩ | ⟨qH,h⟩
         ·cases h
         ·refine EL_y (Iz (nB.2.2)) (Zk rfl) rfl rfl qH rfl (EL_y (.bool ((nB.2.2 != (0 : Int)))) (P_int rfl rfl rfl) rfl rfl qH rfl (EL_p (.bool ((nB.2.2 != (0 : Int)))) (Zl (b := (zB.2 != (0 : Int))) rfl (pick_f qH rfl)) rfl (Zn (.bool ((nB.2.2 != (0 : Int)))) rfl rfl ?_)))
          rcases Zt h with ⟨sH,h⟩ | ⟨sH,h⟩
          ·cases h
          ·refine EL_y (Iz (aB.2.2)) (Zk rfl) rfl rfl sH rfl (EL_y (.bool ((aB.2.2 != (0 : Int)))) (P_int rfl rfl rfl) rfl rfl sH rfl (EL_p (.bool ((aB.2.2 != (0 : Int)))) (Zl (b := (nB.2.2 != (0 : Int))) rfl (pick_f sH rfl)) rfl (Zn (.bool ((aB.2.2 != (0 : Int)))) rfl rfl ?_)))
           rcases Zt h with ⟨tH,h⟩ | ⟨tH,h⟩
           ·cases h
           ·refine EL_y (Iz (bD.2.2)) (Zk rfl) rfl rfl tH rfl (EL_y (.bool ((bD.2.2 != (0 : Int)))) (P_int rfl rfl rfl) rfl rfl tH rfl (EL_p (.bool ((bD.2.2 != (0 : Int)))) (Zl (b := (aB.2.2 != (0 : Int))) rfl (pick_f tH rfl)) rfl (Zn (.bool ((bD.2.2 != (0 : Int)))) rfl rfl ?_)))
            rcases Zt h with ⟨uH,h⟩ | ⟨uH,h⟩
            ·cases h
            ·refine EL_y (Iz (y44.2.2)) (Zk rfl) rfl rfl uH rfl (EL_y (.bool ((y44.2.2 != (0 : Int)))) (P_int rfl rfl rfl) rfl rfl uH rfl (EL_p (.bool ((y44.2.2 != (0 : Int)))) (Zl (b := (bD.2.2 != (0 : Int))) rfl (pick_f uH rfl)) rfl (Zb ?_)))
             obtain rfl:=sinj h;exact hQ _ _ ⟨xR,hfr,rfl,rfl,b8,rfl,rfl,b16,rfl,o0,rfl,l5,rfl,t5,rfl,l8,rfl,lB,rfl,mE,rfl,iM,rfl⟩
  ·clear hx
   obtain ⟨yR,hfr,jM,kM,pM,qM,rM,sM,pK,qK,sK,tK,uK,vK,xK,yK,zK,aL,bL,dL,eL,gL,aH⟩:=hR;rcases Zt h with ⟨jI,h⟩ | ⟨jI,h⟩
   ·refine E_cond_true (Eq.trans (show ev _ _ = .bool (iE) from aH) (congrArg Value.bool jI)) (E_sr (Zg (.bool false) rfl rfl (EL_nt (E_ret (thn_r ?_)))))
    obtain rfl:=sinj h;exact end1 rfl rfl (rq (.bool false)) ⟨_,hfr,rfl⟩
   ·refine E_cond_false (Eq.trans (show ev _ _ = .bool (iE) from aH) (congrArg Value.bool jI)) ?_
    exact Zu (Zd (oO () _ _ ⟨yR,hfr,jM,kM,pM,qM,rM,sM,pK,qK,sK,tK,uK,vK,xK,yK,zK,aL,bL,dL,eL,gL⟩ h))
 ·rintro _ kU cW ⟨zR, hfr, tM, uM, vM, xM, bN, cN, iL, jL, aI, jG, bI, kG, lL, lG, mL, mG, nL, sG, oL, xG⟩ h
  refine Zq h (fun (s:Unit) e w=>∃ (g:Gh) ,Fr gI wI g w∧e 19=n9∧RV g.m w (nB.1:List UInt8) n9∧e 22=l9∧RV g.m w (aB.1:List UInt8) l9∧e 25=yB∧RV g.m w (bD.1:List UInt8) yB∧e 28=n8∧RV g.m w (y44.1:List (List Str)) n8) (fun X274 mK dN h=>?_) ?_
  ·obtain ⟨yD, hx, h⟩ := bsome h
   refine E_join (fun e w=>∃ (g:Gh) ,Fr gI wI g w∧e 19=n9∧RV g.m w (nB.1:List UInt8) n9∧e 22=l9∧RV g.m w (aB.1:List UInt8) l9∧e 25=yB∧RV g.m w (bD.1:List UInt8) yB∧e 28=n8∧RV g.m w (y44.1:List (List Str)) n8∧e 192=.bool (yD)) (fun Q' hQ=>?_) (fun yS lU hR=>?_)
   ·replace h := hx
    clear hx;rcases Zt h with ⟨oE,h⟩ | ⟨oE,h⟩
    ·cases h
    ·refine L_loadO0 (x := .tmp 3) Tryz.isAgg24 Tryz.sizeOf24 vM fun xL pO eN => ?_
     obtain ⟨xE,gN,h⟩:=bsome h;rcases Zt h with ⟨eG,h⟩ | ⟨eG,h⟩
     ·cases h
     ·rcases Zt h with ⟨cF, h⟩ | ⟨cF, h⟩
      ·cases h
      ·refine L_loadO0 (x := .tmp 8) Tryz.isAgg39 Tryz.sizeOf39 cN fun yL qO iN => ?_
       obtain ⟨aG,jN,h⟩:=bsome h;obtain ⟨yE,kN,h⟩:=bsome h;rcases Zt h with ⟨dF,h⟩ | ⟨dF,h⟩
       ·cases h
       ·obtain ⟨zE, lN, h⟩ := bsome h
        rcases Zt h with ⟨uF,h⟩ | ⟨uF,h⟩
        ·cases h
        ·rcases Zt h with ⟨rE, h⟩ | ⟨rE, h⟩
         ·cases h
         ·obtain ⟨sF, lI, h⟩ := bsome h
          have zL:=PT_idx jG lI;have rO:=Zm (part_BookCloth_0).1 zL;refine Zs (x:=.tmp 177) Tryz.isAgg3 Tryz.sizeOf3 rO fun mU sO mN=>?_;obtain rfl:=Zj.1 sO;rcases Zt h with ⟨vF,h⟩ | ⟨vF,h⟩
          ·cases h
          ·rcases Zt h with ⟨uE, h⟩ | ⟨uE, h⟩
           ·cases h
           ·obtain ⟨iG, mI, h⟩ := bsome h
            have aM:=PT_idx kG mI;have tO:=Zm (part_BookCloth_4).1 aM;refine Zs (x:=.tmp 189) Tryz.isAgg3 Tryz.sizeOf3 tO fun nU uO nN=>?_;obtain rfl:=Zj.1 uO;refine E_drawL (g:=zR) (n:=49) [(4,(fun v g w=>RV g.m w ([(3:Int),(4:Int)]:List Int) v∧OS 3148 g w 3 ([(3:Int),(4:Int)]:List Int) v∧FullV v)),(6,(fun v g w=>v=.bool (xE))),(15,(fun v g w=>RV g.m w aG v)),(16,(fun v g w=>v=.bool (yE))),(21,(fun v g w=>RV g.m w ([(1:UInt8),(2:UInt8),(3:UInt8),(0:UInt8),(0:UInt8),(5:UInt8),(11:UInt8),(44:UInt8)]:List UInt8) v∧OS 3165 g w 5 ([(1:UInt8),(2:UInt8),(3:UInt8),(0:UInt8),(0:UInt8),(5:UInt8),(11:UInt8),(44:UInt8)]:List UInt8) v∧FullV v)),(22,(fun v g w=>v=.bool (zE)))] [0,1,2,3,4,5,6,7,8,9,10,11,12,13,14,15,16,17,18,19,20,21,22,23,24,25,26,27,28,29,30,31,32,33,34,35,36,37,38,39,40,41,42,43,44,45,46,47,48] rfl mixed (by kernel_rfl) (⟨fun _=>up_and up_rv (up_and up_os (up_eq _)),fun _=>up_eq _,fun _=>up_rv,fun _=>up_eq _,fun _=>up_and up_rv (up_and up_os (up_eq _)),fun _=>up_eq _,trivial⟩) (L_p (Str.v (y4.1)) rfl rfl (Zk tM) (L_p (.bool ((!((y4.1).b == ((⟨[120,120,46,10,46,46,120,10]⟩:Str)).b)))) rfl rfl (P_str rfl rfl rfl) (L_p (.bool ((!((y4.1).b == ((⟨[120,120,46,10,46,46,120,10]⟩:Str)).b)))) rfl rfl (Zk rfl) (L_ld (c:=xL) rfl rfl (.yes2 rfl rfl oE) (fun _ _ h=>⟨h.ch,fun b hb _=>h.below.block b hb⟩) eN uM (L_do (φ:=fun v g w=>RV g.m w ([(3:Int),(4:Int)]:List Int) v∧OS 3148 g w 3 ([(3:Int),(4:Int)]:List Int) v∧FullV v) rfl rfl (.yes2 rfl rfl oE) (fun g w hd=>D_buildSlice (g:=g) 3148 (xs:=([(3:Int),(4:Int)]:List Int)) (vs:=[Iz (3),Iz (4)]) Tryz.underlying22 Tryz.sizeOf3 Tryz.zeroValue3 rfl rfl (.cons rfl (.cons rfl .nil)) (RVs.cons (Zj.2 rfl) (RVs.cons (Zj.2 rfl) RVs.nil)) rfl rfl fun g' w' v hs o r hxt hfl=>⟨g',hxt,r,o,hfl⟩) (fun mB hv=>?_))))));clear hv;apply Exists.elim (show ∃ v,v=(Value.agg (setCh [[Iz 0],[.slice none 0 0]] [(0,Iz (3)),(1,mB)]).flatten.toArray) from ⟨_,rfl⟩);intro xH yH;refine L_pur (c:=xH) rfl rfl (.yes2 rfl rfl oE) (fun _ _ hd=>yH ▸ P_build (vs:=[(0,Iz (3)),(1,mB)]) [[Iz 0],[.slice none 0 0]] lay_24 rfl rfl (.cons rfl (.cons rfl .nil)) ⟨⟨_,rfl,rfl⟩,⟨⟨_,rfl,cells_size (word (A:=fun g w=>RV g.m w ([(3:Int),(4:Int)]:List Int) mB∧OS 3148 g w 3 ([(3:Int),(4:Int)]:List Int) mB∧FullV mB) 4 rfl rfl (deps_of hd)).1⟩,trivial⟩⟩) (L_do (φ:=fun v g w=>v=.bool (xE)) rfl rfl (.yes2 rfl rfl oE) (fun g w hd=>Zp (g:=g) (vs:=[xL,xH]) en18 (.cons rfl (.cons rfl .nil)) (wk18 (pO.ext hd.1) (show RV _ _ (⟨(3:Int),([(3:Int),(4:Int)]:List Int)⟩:Design) xH from yH ▸ RV_build rfl (rep_pair (rfl) (rep_last (RV.cells (word (A:=fun g w=>RV g.m w ([(3:Int),(4:Int)]:List Int) mB∧OS 3148 g w 3 ([(3:Int),(4:Int)]:List Int) mB∧FullV mB) 4 rfl rfl (hop 5 rfl rfl (deps_of hd))).1)))) gN) fun g' w' v hs hr=>⟨g',hs,hr⟩) (fun oU hv=>?_));obtain ⟨_,_,_,rfl⟩:=hv;refine L_y (.bool (!xE)) rfl rfl rfl rfl oE (P_not rfl) (L_p (.bool (!xE)) rfl rfl (Zl (b:=(!((y4.1).b == ((⟨[120,120,46,10,46,46,120,10]⟩:Str)).b))) rfl (pick_f oE rfl)) (L_p (.bool (!xE)) rfl rfl (Zk rfl) (L_y (Str.v (oB.1)) rfl rfl rfl rfl eG (Zk xM) (L_y (.bool ((!((oB.1).b == ((⟨[109,105,108,108,10,116,105,101,32,112,108,97,105,110,32,50,32,48,32,49,32,48,10,99,104,97,105,110,32,116,119,105,108,108,32,50,10,99,97,114,100,32,48,32,120,46,10,116,117,114,110,101,100,32,63,32,120,46,10,101,110,100,32,53,32,52,53,49,51,10]⟩:Str)).b)))) rfl rfl rfl rfl eG (P_str rfl rfl rfl) (L_p (.bool ((!((oB.1).b == ((⟨[109,105,108,108,10,116,105,101,32,112,108,97,105,110,32,50,32,48,32,49,32,48,10,99,104,97,105,110,32,116,119,105,108,108,32,50,10,99,97,114,100,32,48,32,120,46,10,116,117,114,110,101,100,32,63,32,120,46,10,101,110,100,32,53,32,52,53,49,51,10]⟩:Str)).b)))) rfl rfl (Zl (b:=(!xE)) rfl (pick_f eG rfl)) (L_p (.bool ((!((oB.1).b == ((⟨[109,105,108,108,10,116,105,101,32,112,108,97,105,110,32,50,32,48,32,49,32,48,10,99,104,97,105,110,32,116,119,105,108,108,32,50,10,99,97,114,100,32,48,32,120,46,10,116,117,114,110,101,100,32,63,32,120,46,10,101,110,100,32,53,32,52,53,49,51,10]⟩:Str)).b)))) rfl rfl (Zk rfl) (L_ld (c:=yL) rfl rfl (.yes2 rfl rfl cF) (fun _ _ h=>⟨h.ch,fun b hb _=>h.below.block b hb⟩) iN bN (L_do (φ:=fun v g w=>RV g.m w aG v) rfl rfl (.yes2 rfl rfl cF) (fun g w hd=>Zp (g:=g) (vs:=[]) en52 .nil (wk52  jN) fun g' w' v hs hr=>⟨g',hs,hr⟩) (fun kI hv=>?_)))))))))
            obtain ⟨_,_,_,rq374⟩:=hv;refine L_do (φ:=fun v g w=>v=.bool (yE)) rfl rfl (.yes2 rfl rfl cF) (fun g w hd=>Zp (g:=g) (vs:=[yL,kI]) en24 (.cons rfl (.cons rfl .nil)) (wk24 (qO.ext hd.1) (word (A:=fun g w=>RV g.m w aG kI) 15 rfl rfl (deps_of hd)) kN) fun g' w' v hs hr=>⟨g',hs,hr⟩) (fun pU hv=>?_);obtain ⟨_,_,_,rfl⟩:=hv;refine L_y (.bool (!yE)) rfl rfl rfl rfl cF (P_not rfl) (L_p (.bool (!yE)) rfl rfl (Zl (b:=(!((oB.1).b == ((⟨[109,105,108,108,10,116,105,101,32,112,108,97,105,110,32,50,32,48,32,49,32,48,10,99,104,97,105,110,32,116,119,105,108,108,32,50,10,99,97,114,100,32,48,32,120,46,10,116,117,114,110,101,100,32,63,32,120,46,10,101,110,100,32,53,32,52,53,49,51,10]⟩:Str)).b))) rfl (pick_f cF rfl)) (L_p (.bool (!yE)) rfl rfl (Zk rfl) (L_y oD rfl rfl rfl rfl dF (Zk iL) (L_do (φ:=fun v g w=>RV g.m w ([(1:UInt8),(2:UInt8),(3:UInt8),(0:UInt8),(0:UInt8),(5:UInt8),(11:UInt8),(44:UInt8)]:List UInt8) v∧OS 3165 g w 5 ([(1:UInt8),(2:UInt8),(3:UInt8),(0:UInt8),(0:UInt8),(5:UInt8),(11:UInt8),(44:UInt8)]:List UInt8) v∧FullV v) rfl rfl (.yes2 rfl rfl dF) (fun g w hd=>D_buildSlice (g:=g) 3165 (xs:=([(1:UInt8),(2:UInt8),(3:UInt8),(0:UInt8),(0:UInt8),(5:UInt8),(11:UInt8),(44:UInt8)]:List UInt8)) (vs:=[.int .u8 (UInt8.toNat 1),.int .u8 (UInt8.toNat 2),.int .u8 (UInt8.toNat 3),.int .u8 (UInt8.toNat 0),.int .u8 (UInt8.toNat 0),.int .u8 (UInt8.toNat 5),.int .u8 (UInt8.toNat 11),.int .u8 (UInt8.toNat 44)]) Tryz.underlying50 Tryz.sizeOf5 Tryz.zeroValue5 rfl rfl (.cons rfl (.cons rfl (.cons rfl (.cons rfl (.cons rfl (.cons rfl (.cons rfl (.cons rfl .nil)))))))) (RVs.cons (RV_u8.2 rfl) (RVs.cons (RV_u8.2 rfl) (RVs.cons (RV_u8.2 rfl) (RVs.cons (RV_u8.2 rfl) (RVs.cons (RV_u8.2 rfl) (RVs.cons (RV_u8.2 rfl) (RVs.cons (RV_u8.2 rfl) (RVs.cons (RV_u8.2 rfl) RVs.nil)))))))) rfl rfl fun g' w' v hs o r hxt hfl=>⟨g',hxt,r,o,hfl⟩) (fun bE hv=>?_)))));clear hv;refine L_do (φ:=fun v g w=>v=.bool (zE)) rfl rfl (.yes2 rfl rfl dF) (fun g w hd=>Zp (g:=g) (vs:=[oD,bE]) en36 (.cons rfl (.cons rfl .nil)) (wk36 (jL.ext hd.1) (word (A:=fun g w=>RV g.m w ([(1:UInt8),(2:UInt8),(3:UInt8),(0:UInt8),(0:UInt8),(5:UInt8),(11:UInt8),(44:UInt8)]:List UInt8) bE∧OS 3165 g w 5 ([(1:UInt8),(2:UInt8),(3:UInt8),(0:UInt8),(0:UInt8),(5:UInt8),(11:UInt8),(44:UInt8)]:List UInt8) bE∧FullV bE) 21 rfl rfl (deps_of hd)).1 lN) fun g' w' v hs hr=>⟨g',hs,hr⟩) (fun qU hv=>?_);obtain ⟨_,_,_,rfl⟩:=hv;refine L_y (.bool (!zE)) rfl rfl rfl rfl dF (P_not rfl) (L_p (.bool (!zE)) rfl rfl (Zl (b:=(!yE)) rfl (pick_f dF rfl)) (L_p (.bool (!zE)) rfl rfl (Zk rfl) (L_y cC rfl rfl rfl rfl uF (Zk aI) (L_y (Iz ((y23.1).length:Int)) rfl rfl rfl rfl uF (P_len Tryz.underlying49 rfl jG) (L_y (.bool ((((y23.1).length:Int) != (1:Int)))) rfl rfl rfl rfl uF (P_int rfl rfl rfl) (L_p (.bool ((((y23.1).length:Int) != (1:Int)))) rfl rfl (Zl (b:=(!zE)) rfl (pick_f uF rfl)) (L_p (.bool ((((y23.1).length:Int) != (1:Int)))) rfl rfl (Zk rfl) (L_y cC rfl rfl rfl rfl rE (Zk aI) (L_y (ePtr cC (0:Int) 5) rfl rfl rfl rfl rE (Zh (α:=BookCloth) Tryz.underlying49 Tryz.sizeOf63 rfl jG rfl lI) (L_y (fPtr (ePtr cC (0:Int) 5) 0) rfl rfl rfl rfl rE (Zc at_63_0 rfl (PT.ptr zL)) (L_ld (c:=Iz ((sF).Day)) rfl rfl (.yes2 rfl rfl rE) (fun _ _ h=>h.ch) mN rfl (L_y (.bool (((sF).Day != (258:Int)))) rfl rfl rfl rfl rE (P_int rfl rfl rfl) (L_p (.bool (((sF).Day != (258:Int)))) rfl rfl (Zl (b:=(((y23.1).length:Int) != (1:Int))) rfl (pick_f rE rfl)) (L_p (.bool (((sF).Day != (258:Int)))) rfl rfl (Zk rfl) (L_y uC rfl rfl rfl rfl vF (Zk bI) (L_y (Iz ((zB.1).length:Int)) rfl rfl rfl rfl vF (P_len Tryz.underlying49 rfl kG) ?_))))))))))))))));refine L_y (.bool ((((zB.1).length:Int) != (1:Int)))) rfl rfl rfl rfl vF (P_int rfl rfl rfl) (L_p (.bool ((((zB.1).length:Int) != (1:Int)))) rfl rfl (Zl (b:=((sF).Day != (258:Int))) rfl (pick_f vF rfl)) (L_p (.bool ((((zB.1).length:Int) != (1:Int)))) rfl rfl (Zk rfl) (L_y uC rfl rfl rfl rfl uE (Zk bI) (L_y (ePtr uC (0:Int) 5) rfl rfl rfl rfl uE (Zh (α:=BookCloth) Tryz.underlying49 Tryz.sizeOf63 rfl kG rfl mI) (L_y (fPtr (ePtr uC (0:Int) 5) 4) rfl rfl rfl rfl uE (Zc at_63_4 rfl (PT.ptr aM)) (L_ld (c:=Iz ((iG).Picks)) rfl rfl (.yes2 rfl rfl uE) (fun _ _ h=>h.ch) nN rfl (L_y (.bool (((iG).Picks != (5:Int)))) rfl rfl rfl rfl uE (P_int rfl rfl rfl) (L_p (.bool (((iG).Picks != (5:Int)))) rfl rfl (Zl (b:=(((zB.1).length:Int) != (1:Int))) rfl (pick_f uE rfl)) (L_nil fun vO rU hall=>?_)))))))))
            have hs:=hall.1;have hfr:=hfr.ext hs;have lG:=lG.ext hs;have mG:=mG.ext hs;have sG:=sG.ext hs;have xG:=xG.ext hs;have sU:=(word_all (A:=fun g w=>RV g.m w ([(3:Int),(4:Int)]:List Int) mB∧OS 3148 g w 3 ([(3:Int),(4:Int)]:List Int) mB∧FullV mB) 4 rfl hall).1;have o410:=(word_all (A:=fun g w=>RV g.m w ([(3:Int),(4:Int)]:List Int) mB∧OS 3148 g w 3 ([(3:Int),(4:Int)]:List Int) mB∧FullV mB) 4 rfl hall).2.1;have tU:=(show RV _ _ (⟨(3:Int),([(3:Int),(4:Int)]:List Int)⟩:Design) xH from yH ▸ RV_build rfl (rep_pair (rfl) (rep_last (RV.cells (word_all (A:=fun g w=>RV g.m w ([(3:Int),(4:Int)]:List Int) mB∧OS 3148 g w 3 ([(3:Int),(4:Int)]:List Int) mB∧FullV mB) 4 rfl hall).1))));have uU:=(word_all (A:=fun g w=>RV g.m w aG kI) 15 rfl hall);have vU:=(word_all (A:=fun g w=>RV g.m w ([(1:UInt8),(2:UInt8),(3:UInt8),(0:UInt8),(0:UInt8),(5:UInt8),(11:UInt8),(44:UInt8)]:List UInt8) bE∧OS 3165 g w 5 ([(1:UInt8),(2:UInt8),(3:UInt8),(0:UInt8),(0:UInt8),(5:UInt8),(11:UInt8),(44:UInt8)]:List UInt8) bE∧FullV bE) 21 rfl hall).1;have o427:=(word_all (A:=fun g w=>RV g.m w ([(1:UInt8),(2:UInt8),(3:UInt8),(0:UInt8),(0:UInt8),(5:UInt8),(11:UInt8),(44:UInt8)]:List UInt8) bE∧OS 3165 g w 5 ([(1:UInt8),(2:UInt8),(3:UInt8),(0:UInt8),(0:UInt8),(5:UInt8),(11:UInt8),(44:UInt8)]:List UInt8) bE∧FullV bE) 21 rfl hall).2.1;clear hs hall;refine Zb ?_;obtain rfl:=sinj h;exact hQ _ _ ⟨vO,hfr,lL,lG,mL,mG,nL,sG,oL,xG,rfl⟩
   ·clear hx
    obtain ⟨xO,hfr,kJ,lJ,mJ,nJ,oJ,pJ,qJ,rJ,yG⟩:=hR;rcases Zt h with ⟨zH,h⟩ | ⟨zH,h⟩
    ·refine E_cond_true (Eq.trans (show ev _ _ = .bool (yD) from yG) (congrArg Value.bool zH)) (E_sr (Zg (.bool false) rfl rfl (EL_nt (E_ret (thn_r ?_)))))
     obtain rfl:=sinj h;exact end1 rfl rfl (rq (.bool false)) ⟨_,hfr,rfl⟩
    ·refine E_cond_false (Eq.trans (show ev _ _ = .bool (yD) from yG) (congrArg Value.bool zH)) ?_
     exact Zu (Zd (dN () _ _ ⟨xO,hfr,kJ,lJ,mJ,nJ,oJ,pJ,qJ,rJ⟩ h))
  ·rintro _ zS xU ⟨yO, hfr, sJ, bG, vJ, lE, xJ, cD, eF, i6⟩ h
   obtain ⟨tF,hx,h⟩:=bsome h;refine E_join (fun e w=>∃ (g:Gh) ,Fr gI wI g w∧e 0=.bool (tF)) (fun Q' hQ=>?_) (fun eT yU hR=>?_)
   ·replace h := hx
    clear hx;refine Za (Zo xJ rfl (EL_d0 rfl (D_buildSlice (g:=yO) 3194 (xs:=([]:List UInt8)) (vs:=[]) Tryz.underlying50 Tryz.sizeOf5 Tryz.zeroValue5 rfl rfl .nil RVs.nil rfl rfl fun zO zU aV hs o484 aP hxt hfl=>?_)));have hfr:=hfr.stp hs;have bG:=bG.stp hs;have lE:=lE.stp hs;have cD:=cD.stp hs;have i6:=i6.stp hs;refine Zo sJ rfl ?_;obtain ⟨bK,oN,h⟩:=bsome h;refine EL_d0 rfl (D_append (g:=zO) (i:=3194) Tryz.underlying50 info_5 rfl rfl o484 aP rfl bG oN fun cP bV cV hs o485 dP _=>?_);have hfr:=hfr.stp hs;have lE:=lE.stp hs;have cD:=cD.stp hs;have i6:=i6.stp hs;refine Zo vJ rfl ?_;obtain ⟨cK,pN,h⟩:=bsome h;refine EL_d0 rfl (D_append (g:=cP) (i:=3194) Tryz.underlying50 info_5 rfl rfl o485 dP rfl lE pN fun eP dV gP hs o487 iP _=>?_);have hfr:=hfr.stp hs;have cD:=cD.stp hs;have i6:=i6.stp hs;obtain ⟨cH,qN,h⟩:=bsome h;refine EL_d0 rfl (Zp (g:=eP) (vs:=[yB,gP]) en36 (.cons rfl (.cons rfl .nil)) (wk36 cD iP qN) fun cG lT eV hs hr=>?_);have hfr:=hfr.ext hs;have i6:=i6.ext hs;subst hr;refine Zn (.bool (cH)) rfl rfl ?_;rcases Zt h with ⟨xF,h⟩ | ⟨xF,h⟩
    ·refine EL_y n8 (Zk eF) rfl rfl xF rfl (EL_y (Iz ((y44.1).length : Int)) (P_len Tryz.underlying72 rfl i6) rfl rfl xF rfl (EL_y (.bool ((((y44.1).length : Int) == (16 : Int)))) (P_int rfl rfl rfl) rfl rfl xF rfl (EL_p (.bool ((((y44.1).length : Int) == (16 : Int)))) (Zl (b := cH) rfl (pick_t xF rfl)) rfl (Zn (.bool ((((y44.1).length : Int) == (16 : Int)))) rfl rfl ?_))))
     rcases Zt h with ⟨vE,h⟩ | ⟨vE,h⟩
     ·refine EL_y n8 (Zk eF) rfl rfl vE rfl ?_
      obtain ⟨rF,nI,h⟩:=bsome h;refine EL_y (ePtr n8 (0:Int) 1) (Zh (α:=List Str) Tryz.underlying72 Tryz.sizeOf104 rfl i6 rfl nI) rfl rfl vE rfl ?_;have jP:=PT_idx i6 nI;refine Ze (.yes2 rfl rfl vE) rfl (D_load (g:=cG) Tryz.isAgg104 Tryz.sizeOf104 rfl jP fun gV kP=>(EL_y (Iz ((rF).length:Int)) (P_len Tryz.underlying104 rfl kP) rfl rfl vE rfl (EL_y (.bool ((((rF).length:Int) == (5:Int)))) (P_int rfl rfl rfl) rfl rfl vE rfl (EL_p (.bool ((((rF).length:Int) == (5:Int)))) (Zl (b:=(((y44.1).length:Int) == (16:Int))) rfl (pick_t vE rfl)) rfl (Zn (.bool ((((rF).length:Int) == (5:Int)))) rfl rfl ?_)))));rcases Zt h with ⟨zD,h⟩ | ⟨zD,h⟩
      ·refine EL_y n8 (Zk eF) rfl rfl zD rfl ?_
       obtain ⟨dK,pI,h⟩:=bsome h;refine EL_y (ePtr n8 (0:Int) 1) (Zh (α:=List Str) Tryz.underlying72 Tryz.sizeOf104 rfl i6 rfl pI) rfl rfl zD rfl ?_;have lP:=PT_idx i6 pI;refine Ze (.yes2 rfl rfl zD) rfl (D_load (g:=cG) Tryz.isAgg104 Tryz.sizeOf104 rfl lP fun mP cM=>?_);obtain ⟨yF,qI,h⟩:=bsome h;refine EL_y (ePtr mP (0:Int) 1) (Zh (α:=Str) Tryz.underlying104 Tryz.sizeOf9 rfl cM rfl qI) rfl rfl zD rfl ?_;have nP:=PT_idx cM qI;refine Ze (.yes2 rfl rfl zD) rfl (D_load (g:=cG) Tryz.isAgg9 Tryz.sizeOf9 rfl nP fun iV oP=>?_);obtain rfl:=RV_str.1 oP;refine EL_y (.bool (((yF).b == ((⟨[120,46,120]⟩:Str)).b))) (P_str rfl rfl rfl) rfl rfl zD rfl (EL_p (.bool (((yF).b == ((⟨[120,46,120]⟩:Str)).b))) (Zl (b:=(((rF).length:Int) == (5:Int))) rfl (pick_t zD rfl)) rfl (Zn (.bool (((yF).b == ((⟨[120,46,120]⟩:Str)).b))) rfl rfl ?_));rcases Zt h with ⟨aE,h⟩ | ⟨aE,h⟩
       ·refine EL_y n8 (Zk eF) rfl rfl aE rfl ?_
        obtain ⟨lK,sI,h⟩:=bsome h;refine EL_y (ePtr n8 (0:Int) 1) (Zh (α:=List Str) Tryz.underlying72 Tryz.sizeOf104 rfl i6 rfl sI) rfl rfl aE rfl ?_;have pP:=PT_idx i6 sI;refine Ze (.yes2 rfl rfl aE) rfl (D_load (g:=cG) Tryz.isAgg104 Tryz.sizeOf104 rfl pP fun sP dM=>?_);obtain ⟨gG,jJ,h⟩:=bsome h;refine EL_y (ePtr sP (3:Int) 1) (Zh (α:=Str) Tryz.underlying104 Tryz.sizeOf9 rfl dM rfl jJ) rfl rfl aE rfl ?_;have tP:=PT_idx dM jJ;refine Ze (.yes2 rfl rfl aE) rfl (D_load (g:=cG) Tryz.isAgg9 Tryz.sizeOf9 rfl tP fun jV uP=>?_);obtain rfl:=RV_str.1 uP;refine EL_y (.bool (((gG).b == ((⟨[46,120,46]⟩:Str)).b))) (P_str rfl rfl rfl) rfl rfl aE rfl (EL_p (.bool (((gG).b == ((⟨[46,120,46]⟩:Str)).b))) (Zl (b:=((yF).b == ((⟨[120,46,120]⟩:Str)).b)) rfl (pick_t aE rfl)) rfl (Zg (.bool (((gG).b == ((⟨[46,120,46]⟩:Str)).b))) rfl rfl (Zb ?_)));obtain rfl:=sinj h;exact hQ _ _ ⟨cG,hfr,rfl⟩
       ·cases h
      ·cases h
     ·cases h
    ·cases h
   ·clear hx
    obtain ⟨kV,hfr,eM⟩:=hR;refine E_ret ?_;obtain rfl:=sinj h;exact end1 rfl rfl (show _=.bool (tF) from eM) ⟨_,hfr,rfl⟩
noncomputable def f7 (x0:List UInt8):Option (Bool):=
 jn (σ:=Unit) (fun _=>
  (f30 x0).bind fun tF=>
  (f37 tF).bind fun o0=>
  jn (σ:=Unit) (fun _=>
   jn (σ:=Unit) (fun _=>
    jn (σ:=Unit) (fun _=>
     Option.bind (α:=Bool) (
      bif (o0.2 == (0 : Int)) then
       (f40 x0).bind fun uF=>
       (f35 (o0.1) uF).bind fun y104=>
       bif y104 then
        (f13).bind fun bD=>
        some (bD)
       else
        some (false)
      else
       some (false)
      ) fun nB=>
     some (nB)
     ) fun yG=>
    (f38 x0).bind fun lB=>
    Option.bind (α:=Bool) (
     bif lB.2 then
      (f39 (lB.1)).bind fun y79=>
      some (y79)
     else
      some (false)
     ) fun aB=>
    bif aB then
     Option.bind (α:=Bool) (
      bif (o0.2 == (6 : Int)) then
       bif (((o0.1).length : Int) == (0 : Int)) then
        (f13).bind fun mE=>
        some (mE)
       else
        some (false)
      else
       some (false)
      ) fun yB=>
     some (yB)
    else
     yG ()
    ) fun zG=>
   bif (((x0).length : Int) != (8 : Int)) then
    Option.bind (α:=Bool) (
     bif (o0.2 == (4 : Int)) then
      bif (((o0.1).length : Int) == (0 : Int)) then
       (f13).bind fun y40=>
       some (y40)
      else
       some (false)
     else
      some (false)
     ) fun zB=>
    some (zB)
   else
    zG ()
   ) fun aH=>
  (f36 tF x0).bind fun vF=>
  bif (!vF) then
   some (false)
  else
   aH ()
  ) fun k4=>
 bif (decide (((x0).length : Int) > (20 : Int))) then
  (f13).bind fun y7=>
  some (y7)
 else
  k4 ()
theorem wk7 {gI:Gh} {wI:World} (hTI:TabE 0 1 4 5 gI.m wI) {x0:List UInt8} {up0:Value} (rp0:RV gI.m wI x0 up0) {r:Bool} (h:f7 x0=some r):Fn Tryz.prog 7 #[up0] gI wI (fun _ _ v=>v=.bool (r)):=by
 unfold f7 at h;refine fnE Tryz.func7 rfl rfl fun g0 hm hfr=>?_;have rp0:=RVc hm rp0;show E _ 67 none _ _ _ _ _;refine E_sr (Zg (.bool false) rfl rfl (EL_nt (Zq h (fun (s:Unit) e w=>∃ (g:Gh) ,Fr gI wI g w∧e 0=up0∧RV g.m w (x0:List UInt8) up0) (fun X4 k4 hk4 h=>?_) ?_)))
 ·refine E_sr (Zn up0 rfl rfl (EL_p (Iz ((x0).length : Int)) (P_len Tryz.underlying50 rfl rp0) rfl (EL_in (.bool ((decide (((x0).length : Int) > (20 : Int))))) rfl rfl rfl rfl (EL_nt ?_))))
  rcases Zt h with ⟨hc5,h⟩ | ⟨hc5,h⟩
  ·refine E_ct hc5 rfl (E_sr ?_)
   obtain ⟨y7,zH,h⟩:=bsome h;refine EL_d0 rfl (Zp (g:=g0) (vs:=[]) en13 .nil (wk13 (hTI.ch hfr.ch)  zH) fun g6 w6_ v6 hs hr=>?_);have hfr:=hfr.ext hs;subst hr;refine Zg (.bool (y7)) rfl rfl (EL_nt (E_ret (thn_r ?_)));obtain rfl:=sinj h;exact end1 rfl rfl (rq (.bool (y7))) ⟨_,hfr,rfl⟩
  ·refine E_cf hc5 rfl ?_
   exact Zu (Zd (hk4 () _ _ ⟨g0,hfr,rfl,rp0⟩ h))
 ·rintro _ nK w8 ⟨g8, hfr, aE, n8⟩ h
  refine E_sr (Zo aE rfl ?_);obtain ⟨tF,gH,h⟩:=bsome h;refine EL_d0 rfl (Zp (g:=g8) (vs:=[up0]) en30 (.cons rfl .nil) (wk30 n8 gH) fun g9 w9_ v9 hs hr=>?_);have hfr:=hfr.ext hs;have n8:=n8.ext hs;have r9:=hr;refine Zg v9 rfl rfl (EL_nt (E_sr (Zn v9 rfl rfl ?_)));obtain ⟨o0,jH,h⟩:=bsome h;refine EL_d0 rfl (Zp (g:=g9) (vs:=[v9]) en37 (.cons rfl .nil) (wk37 r9 jH) fun g11 mJ oK hs hr=>?_);have hfr:=hfr.ext hs;have n8:=n8.ext hs;have r9:=r9.ext hs;obtain ⟨l5,pI,rfl,cD,rfl⟩:=hr;refine Zn (.tuple #[l5,Iz (o0.2)]) rfl rfl (EL_p l5 (Zi rfl rfl) rfl (EL_p (Iz (o0.2)) (Zi rfl rfl) rfl (Zg l5 rfl rfl (Zg (Iz (o0.2)) rfl rfl (EL_nt (Zq h (fun (s:Unit) e w=>∃ (g:Gh) ,Fr gI wI g w∧e 0=up0∧RV g.m w (x0:List UInt8) up0∧e 4=l5∧RV g.m w (o0.1:List BookCloth) l5∧e 5=Iz (o0.2)) (fun X16 aH kH h=>?_) ?_))))))
  ·refine E_sr (Zn v9 rfl rfl (Zo aE rfl ?_))
   obtain ⟨vF,lH,h⟩:=bsome h;refine EL_d0 rfl (Zp (g:=g11) (vs:=[v9,up0]) en36 (.cons rfl (.cons rfl .nil)) (wk36 r9 n8 lH) fun aI nJ pK hs hr=>?_);have hfr:=hfr.ext hs;have n8:=n8.ext hs;have cD:=cD.ext hs;subst hr;refine EL_p (.bool (!vF)) (P_not rfl) rfl (EL_nt ?_);rcases Zt h with ⟨bE,h⟩ | ⟨bE,h⟩
   ·refine E_ct bE rfl (E_sr (Zg (.bool false) rfl rfl (EL_nt (E_ret (thn_r ?_)))))
    obtain rfl:=sinj h;exact end1 rfl rfl (rq (.bool false)) ⟨_,hfr,rfl⟩
   ·refine E_cf bE rfl ?_
    exact Zu (Zd (kH () _ _ ⟨aI,hfr,aE,n8,rfl,cD,rfl⟩ h))
  ·rintro _ oJ qK ⟨oE, hfr, rE, uE, vE, xE, yE⟩ h
   refine Zq h (fun (s:Unit) e w=>∃ (g:Gh) ,Fr gI wI g w∧e 0=up0∧RV g.m w (x0:List UInt8) up0∧e 4=l5∧RV g.m w (o0.1:List BookCloth) l5∧e 5=Iz (o0.2)) (fun X31 zG mH h=>?_) ?_
   ·refine E_sr (Zo rE rfl (EL_p (Iz ((x0).length : Int)) (P_len Tryz.underlying50 rfl uE) rfl (EL_in (.bool ((((x0).length : Int) != (8 : Int)))) rfl rfl rfl rfl (EL_nt ?_))))
    rcases Zt h with ⟨iE,h⟩ | ⟨iE,h⟩
    ·refine E_ct iE rfl ?_
     obtain ⟨zB,hx,h⟩:=bsome h;refine E_join (fun e w=>∃ (g:Gh) ,Fr gI wI g w∧e 2=.bool (zB)) (fun Q' hQ=>?_) (fun pJ sK hR=>?_)
     ·replace h := hx
      clear hx;refine Za (Zo yE rfl (EL_in (.bool ((o0.2 == (4:Int)))) rfl rfl rfl rfl (Zn (.bool ((o0.2 == (4:Int)))) rfl rfl ?_)));rcases Zt h with ⟨l9,h⟩ | ⟨l9,h⟩
      ·refine EL_y l5 (Zk vE) rfl rfl l9 rfl (EL_y (Iz ((o0.1).length : Int)) (P_len Tryz.underlying49 rfl xE) rfl rfl l9 rfl (EL_y (.bool ((((o0.1).length : Int) == (0 : Int)))) (P_int rfl rfl rfl) rfl rfl l9 rfl (EL_p (.bool ((((o0.1).length : Int) == (0 : Int)))) (Zl (b := (o0.2 == (4 : Int))) rfl (pick_t l9 rfl)) rfl (Zn (.bool ((((o0.1).length : Int) == (0 : Int)))) rfl rfl ?_))))
       rcases Zt h with ⟨cC,h⟩ | ⟨cC,h⟩
       ·obtain ⟨y40, nH, h⟩ := bsome h
        refine Ze (.yes2 rfl rfl cC) rfl (Zp (g:=oE) (vs:=[]) en13 .nil (wk13 (hTI.ch hfr.ch)  nH) fun bI qJ tK hs hr=>?_);have hfr:=hfr.ext hs;subst hr;refine EL_p (.bool (y40)) (Zl (b:=(((o0.1).length:Int) == (0:Int))) rfl (pick_t cC rfl)) rfl (Zg (.bool (y40)) rfl rfl (Zb ?_));obtain rfl:=sinj h;exact hQ _ _ ⟨bI,hfr,rfl⟩
       ·refine EL_s rfl rfl cC rfl rfl (EL_p (.bool false) (Zl (b := (((o0.1).length : Int) == (0 : Int))) rfl (pick_f cC rfl)) rfl (Zg (.bool false) rfl rfl (Zb ?_)))
        obtain rfl:=sinj h;exact hQ _ _ ⟨oE,hfr,rfl⟩
      ·refine EL_s rfl rfl l9 rfl rfl (EL_s rfl rfl l9 rfl rfl (EL_s rfl rfl l9 rfl rfl (EL_p (.bool false) (Zl (b := (o0.2 == (4 : Int))) rfl (pick_f l9 rfl)) rfl (EL_dead 3 rfl (Zg (.bool false) rfl rfl (Zb ?_))))))
       obtain rfl:=sinj h;exact hQ _ _ ⟨oE,hfr,rfl⟩
     ·clear hx
      obtain ⟨uK,hfr,bG⟩:=hR;refine E_ret (thn_r ?_);obtain rfl:=sinj h;exact end1 rfl rfl (show _=.bool (zB) from bG) ⟨_,hfr,rfl⟩
    ·refine E_cf iE rfl ?_
     exact Zu (Zd (mH () _ _ ⟨oE,hfr,rE,uE,vE,xE,yE⟩ h))
   ·rintro _ rJ vK ⟨dI, hfr, lD, t5, zE, i6, cF⟩ h
    refine Zq h (fun (s:Unit) e w=>∃ (g:Gh) ,Fr gI wI g w∧e 0=up0∧RV g.m w (x0:List UInt8) up0∧e 4=l5∧RV g.m w (o0.1:List BookCloth) l5∧e 5=Iz (o0.2)) (fun X67 yG oH h=>?_) ?_
    ·refine E_sr (Zo lD rfl ?_)
     obtain ⟨lB,pH,h⟩:=bsome h;refine EL_d0 rfl (Zp (g:=dI) (vs:=[up0]) en38 (.cons rfl .nil) (wk38 t5 pH) fun iI sJ xK hs hr=>?_);have hfr:=hfr.ext hs;have t5:=t5.ext hs;have i6:=i6.ext hs;obtain ⟨nD,qI,rfl,oD,rfl⟩:=hr;refine Zn (.tuple #[nD,.bool (lB.2)]) rfl rfl (EL_p nD (Zi rfl rfl) rfl (EL_p (.bool (lB.2)) (Zi rfl rfl) rfl (EL_d0 rfl (D_allocOc (g:=iI) 2006 (⟨0,0,0,0,0⟩:BookCloth) Tryz.zeroValue63 (fun m w=>⟨_,(rep_two rep_int (rep_two rep_int (rep_two rep_int (rep_two rep_int rep_int)))),rfl⟩) fun jI yK zK hs b70 cb=>?_))));have hfr:=hfr.stp hs;have t5:=t5.stp hs;have i6:=i6.stp hs;have oD:=oD.stp hs;clear cb;refine EL_d0 rfl (D_storeOc (g:=jI) (v:=nD) Tryz.sizeOf63 rfl b70 rfl oD fun xF aL hs b71 cb=>?_);clear cb;have hfr:=hfr.stp hs;have t5:=t5.stp hs;have i6:=i6.stp hs;refine Zg (.bool (lB.2)) rfl rfl (EL_nt ?_);obtain ⟨aB,hx,h⟩:=bsome h;refine E_join (fun e w=>∃ (g:Gh) ,Fr gI wI g w∧e 0=up0∧RV g.m w (x0:List UInt8) up0∧e 4=l5∧RV g.m w (o0.1:List BookCloth) l5∧e 5=Iz (o0.2)∧e 45=.bool (aB)) (fun Q' hQ=>?_) (fun vJ bL hR=>?_)
     ·replace h := hx
      clear hx;refine Za (Zn (.bool (lB.2)) rfl rfl (Zn (.bool (lB.2)) rfl rfl ?_));rcases Zt h with ⟨mB,h⟩ | ⟨mB,h⟩
      ·refine Ze (.yes2 rfl rfl mB) rfl (D_loadO (g := xF) Tryz.isAgg63 Tryz.sizeOf63 rfl b71 fun kI lI => ?_)
       obtain ⟨y79,qH,h⟩:=bsome h;refine Ze (.yes2 rfl rfl mB) rfl (Zp (g:=xF) (vs:=[kI]) en39 (.cons rfl .nil) (wk39 lI qH) fun mI xJ dL hs hr=>?_);have hfr:=hfr.ext hs;have t5:=t5.ext hs;have i6:=i6.ext hs;subst hr;refine EL_p (.bool (y79)) (Zl (b:=lB.2) rfl (pick_t mB rfl)) rfl (Zb ?_);obtain rfl:=sinj h;exact hQ _ _ ⟨mI,hfr,lD,t5,zE,i6,cF,rfl⟩
      ·refine EL_s rfl rfl mB rfl rfl (EL_s rfl rfl mB rfl rfl (EL_p (.bool false) (Zl (b := lB.2) rfl (pick_f mB rfl)) rfl (Zb ?_)))
       obtain rfl:=sinj h;exact hQ _ _ ⟨xF,hfr,lD,t5,zE,i6,cF,rfl⟩
     ·clear hx
      obtain ⟨dF,hfr,cG,eG,eF,rF,sF,zD⟩:=hR;rcases Zt h with ⟨lE,h⟩ | ⟨lE,h⟩
      ·refine E_cond_true (Eq.trans (show ev _ _ = .bool (aB) from zD) (congrArg Value.bool lE)) ?_
       obtain ⟨yB,hx,h⟩:=bsome h;refine E_join (fun e w=>∃ (g:Gh) ,Fr gI wI g w∧e 2=.bool (yB)) (fun Q' hQ=>?_) (fun zJ eL hR=>?_)
       ·replace h := hx
        clear hx;refine Za (Zo sF rfl (EL_in (.bool ((o0.2 == (6:Int)))) rfl rfl rfl rfl (Zn (.bool ((o0.2 == (6:Int)))) rfl rfl ?_)));rcases Zt h with ⟨n9,h⟩ | ⟨n9,h⟩
        ·refine EL_y l5 (Zk eF) rfl rfl n9 rfl (EL_y (Iz ((o0.1).length : Int)) (P_len Tryz.underlying49 rfl rF) rfl rfl n9 rfl (EL_y (.bool ((((o0.1).length : Int) == (0 : Int)))) (P_int rfl rfl rfl) rfl rfl n9 rfl (EL_p (.bool ((((o0.1).length : Int) == (0 : Int)))) (Zl (b := (o0.2 == (6 : Int))) rfl (pick_t n9 rfl)) rfl (Zn (.bool ((((o0.1).length : Int) == (0 : Int)))) rfl rfl ?_))))
         rcases Zt h with ⟨uC,h⟩ | ⟨uC,h⟩
         ·obtain ⟨mE, sH, h⟩ := bsome h
          refine Ze (.yes2 rfl rfl uC) rfl (Zp (g:=dF) (vs:=[]) en13 .nil (wk13 (hTI.ch hfr.ch)  sH) fun nI aK gL hs hr=>?_);have hfr:=hfr.ext hs;subst hr;refine EL_p (.bool (mE)) (Zl (b:=(((o0.1).length:Int) == (0:Int))) rfl (pick_t uC rfl)) rfl (Zg (.bool (mE)) rfl rfl (Zb ?_));obtain rfl:=sinj h;exact hQ _ _ ⟨nI,hfr,rfl⟩
         ·refine EL_s rfl rfl uC rfl rfl (EL_p (.bool false) (Zl (b := (((o0.1).length : Int) == (0 : Int))) rfl (pick_f uC rfl)) rfl (Zg (.bool false) rfl rfl (Zb ?_)))
          obtain rfl:=sinj h;exact hQ _ _ ⟨dF,hfr,rfl⟩
        ·refine EL_s rfl rfl n9 rfl rfl (EL_s rfl rfl n9 rfl rfl (EL_s rfl rfl n9 rfl rfl (EL_p (.bool false) (Zl (b := (o0.2 == (6 : Int))) rfl (pick_f n9 rfl)) rfl (EL_dead 3 rfl (Zg (.bool false) rfl rfl (Zb ?_))))))
         obtain rfl:=sinj h;exact hQ _ _ ⟨dF,hfr,rfl⟩
       ·clear hx
        obtain ⟨iL,hfr,gG⟩:=hR;refine E_ret (thn_r ?_);obtain rfl:=sinj h;exact end1 rfl rfl (show _=.bool (yB) from gG) ⟨_,hfr,rfl⟩
      ·refine E_cond_false (Eq.trans (show ev _ _ = .bool (aB) from zD) (congrArg Value.bool lE)) ?_
       exact Zu (Zd (oH () _ _ ⟨dF,hfr,cG,eG,eF,rF,sF⟩ h))
    ·rintro _ bK jL ⟨cH, hfr, iG, jG, kG, yD, lG⟩ h
     obtain ⟨nB,hx,h⟩:=bsome h;refine E_join (fun e w=>∃ (g:Gh) ,Fr gI wI g w∧e 2=.bool (nB)) (fun Q' hQ=>?_) (fun sI cK hR=>?_)
     ·replace h := hx
      clear hx;refine Za (Zo lG rfl (EL_in (.bool ((o0.2 == (0:Int)))) rfl rfl rfl rfl (Zn (.bool ((o0.2 == (0:Int)))) rfl rfl ?_)));rcases Zt h with ⟨l8,h⟩ | ⟨l8,h⟩
      ·refine EL_y l5 (Zk kG) rfl rfl l8 rfl (EL_y up0 (Zk iG) rfl rfl l8 rfl ?_)
       obtain ⟨uF,mG,h⟩:=bsome h;refine Ze (.yes2 rfl rfl l8) rfl (Zp (g:=cH) (vs:=[up0]) en40 (.cons rfl .nil) (wk40 jG mG) fun tH jJ uH hs hr=>?_);have hfr:=hfr.ext hs;have yD:=yD.ext hs;have xH:=hr;obtain ⟨y104,sG,h⟩:=bsome h;refine Ze (.yes2 rfl rfl l8) rfl (Zp (g:=tH) (vs:=[l5,uH]) en35 (.cons rfl (.cons rfl .nil)) (wk35 yD xH sG) fun yF kJ dK hs hr=>?_);have hfr:=hfr.ext hs;subst hr;refine EL_p (.bool (y104)) (Zl (b:=(o0.2 == (0:Int))) rfl (pick_t l8 rfl)) rfl (Zn (.bool (y104)) rfl rfl ?_);rcases Zt h with ⟨oB,h⟩ | ⟨oB,h⟩
       ·obtain ⟨bD, xG, h⟩ := bsome h
        refine Ze (.yes2 rfl rfl oB) rfl (Zp (g:=yF) (vs:=[]) en13 .nil (wk13 (hTI.ch hfr.ch)  xG) fun yH lJ lK hs hr=>?_);have hfr:=hfr.ext hs;subst hr;refine EL_p (.bool (bD)) (Zl (b:=y104) rfl (pick_t oB rfl)) rfl (Zg (.bool (bD)) rfl rfl (Zb ?_));obtain rfl:=sinj h;exact hQ _ _ ⟨yH,hfr,rfl⟩
       ·refine EL_s rfl rfl oB rfl rfl (EL_p (.bool false) (Zl (b := y104) rfl (pick_f oB rfl)) rfl (Zg (.bool false) rfl rfl (Zb ?_)))
        obtain rfl:=sinj h;exact hQ _ _ ⟨yF,hfr,rfl⟩
      ·refine EL_s rfl rfl l8 rfl rfl ?_
       iterate 3 refine EL_s rfl rfl l8 rfl rfl ?_
       refine EL_p (.bool false) (Zl (b:=(o0.2 == (0:Int))) rfl (pick_f l8 rfl)) rfl (EL_dead 3 rfl (Zg (.bool false) rfl rfl (Zb ?_)));obtain rfl:=sinj h;exact hQ _ _ ⟨cH,hfr,rfl⟩
     ·clear hx
      obtain ⟨mK,hfr,aG⟩:=hR;refine E_ret ?_;obtain rfl:=sinj h;exact end1 rfl rfl (show _=.bool (nB) from aG) ⟨_,hfr,rfl⟩
end Go.Proofs.YtmebkoemfjlbcaaGreatDoor
