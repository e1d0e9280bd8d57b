import Derived.Test.YtmebkoemfjlbcaaGreatDoorCode4
/- All functions of this text. -/
/- known of chapter 13: all calls answer as the examples say. -/
set_option maxRecDepth 100000
set_option maxHeartbeats 4000000
namespace Go.Proofs.YtmebkoemfjlbcaaGreatDoor
open Go.RowKit Go.Sort
theorem bindS {α β:Type} {x:Option α} {k:α→Option β} {a:α} {r:Option β} (h:x=some a) (h2:k a=r):x.bind k=r:=by rw [h]; exact h2
theorem k15:f15 (⟨3,[3,4]⟩:Design)=some ((⟨[120,120,46,10,46,46,120,10]⟩:Str),0):=by kernel_rfl
theorem k19:f19 (⟨[120,120,46,10,46,46,120,10]⟩:Str)=some ((⟨3,[3,4]⟩:Design),0,0):=by kernel_rfl
theorem k52:f52=some (⟨[⟨⟨[112,108,97,105,110]⟩,⟨2,[0,1,0]⟩⟩],[⟨⟨[116,119,105,108,108]⟩,⟨2,[⟨0,1,false⟩,⟨-1,1,true⟩]⟩⟩]⟩:BookMill):=by kernel_rfl
theorem k23:f23 (⟨[⟨⟨[112,108,97,105,110]⟩,⟨2,[0,1,0]⟩⟩],[⟨⟨[116,119,105,108,108]⟩,⟨2,[⟨0,1,false⟩,⟨-1,1,true⟩]⟩⟩]⟩:BookMill)=some ((⟨[109,105,108,108,10,116,105,101,32,112,108,97,105,110,32,50,32,48,32,49,32,48,10,99,104,97,105,110,32,116,119,105,108,108,32,50,10,99,97,114,100,32,48,32,120,46,10,116,117,114,110,101,100,32,63,32,120,46,10,101,110,100,32,53,32,52,53,49,51,10]⟩:Str),0):=by kernel_rfl
theorem k26:f26 (⟨[109,105,108,108,10,116,105,101,32,112,108,97,105,110,32,50,32,48,32,49,32,48,10,99,104,97,105,110,32,116,119,105,108,108,32,50,10,99,97,114,100,32,48,32,120,46,10,116,117,114,110,101,100,32,63,32,120,46,10,101,110,100,32,53,32,52,53,49,51,10]⟩:Str)=some ((⟨[⟨⟨[112,108,97,105,110]⟩,⟨2,[0,1,0]⟩⟩],[⟨⟨[116,119,105,108,108]⟩,⟨2,[⟨0,1,false⟩,⟨-1,1,true⟩]⟩⟩]⟩:BookMill),0,0):=by kernel_rfl

def g95 (srt:List BookCloth→(BookCloth→BookCloth→Option Int)→Option (List BookCloth)) (x0:List (List UInt8)):Option ((List BookCloth) × Int × Int):=
 jn (σ:=Unit) (fun _=>
  jn (σ:=(List (List BookCloth))) (fun i6=>
   jn (σ:=(List BookCloth)) (fun yD=>
    jn (σ:=Unit) (fun _=>
     (srt yD ((fun a0 a1=>f89 a0 a1))).bind fun sM=>
     some (sM,(0:Int),(0:Int))
     ) fun tM=>
    bif (decide (((yD).length : Int) > (100 : Int))) then
     some (([]:List BookCloth),(0:Int),(5:Int))
    else
     tM ()
    ) fun uM=>
   lp (σ:=(List BookCloth) × (List (BookSpot × BookCloth)) × Int) (fun vM (dF,aH,t5)=>
    bif (decide (t5 < ((i6).length : Int))) then
     jn (σ:=(List BookCloth) × (List (BookSpot × BookCloth))) (fun (sG,tF)=>
      vM (sG,tF,(w64 (t5 + (1:Int))))
      ) fun xM=>
     (idx i6 t5).bind fun uC=>
     lp (σ:=(List BookCloth) × (List (BookSpot × BookCloth)) × Int) (fun bN (bD,l5,l9)=>
      bif (decide (l9 < ((uC).length : Int))) then
       jn (σ:=(List BookCloth) × (List (BookSpot × BookCloth))) (fun (xG,uF)=>
        bN (xG,uF,(w64 (l9 + (1:Int))))
        ) fun mJ=>
       (idx uC l9).bind fun o0=>
       jn (σ:=Unit) (fun _=>
        bif (!((mget l5 ((⟨(o0).Day, (o0).Loom⟩ : BookSpot))).isSome)) then
         (apnd 40 bD (([o0]:List BookCloth))).bind fun nJ=>
         mJ (nJ,(mset l5 ((⟨(o0).Day,(o0).Loom⟩:BookSpot)) o0))
        else
         mJ (bD,l5)
        ) fun cN=>
       Option.bind (α:=Bool) (
        bif ((mget l5 ((⟨(o0).Day, (o0).Loom⟩ : BookSpot))).isSome) then
         some ((!(decide (((mget l5 ((⟨(o0).Day,(o0).Loom⟩:BookSpot))).getD (⟨0,0,0,0,0⟩:BookCloth))=o0))))
        else
         some (false)
        ) fun zD=>
       bif zD then
        some (([]:List BookCloth),t5,(6:Int))
       else
        cN ()
      else
       xM (bD,l5)
      ) big (dF,aH,(0:Int))
    else
     uM (dF)
    ) big (([]:List BookCloth),([]:List (BookSpot × BookCloth)),(0:Int))
   ) fun mP=>
  lp (σ:=(List (List BookCloth)) × Int) (fun nP (uE,l8)=>
   bif (decide (l8 < ((x0).length : Int))) then
    jn (σ:=(List (List BookCloth))) (fun xH=>
     nP (xH,(w64 (l8 + (1:Int))))
     ) fun oP=>
    (idx x0 l8).bind fun pP=>
    (f32 pP).bind fun cD=>
    jn (σ:=Unit) (fun _=>
     (apnd 24 uE (([cD.1]:List (List BookCloth)))).bind fun dN=>
     oP (dN)
     ) fun k80=>
    bif (cD.2.2 != (0 : Int)) then
     some (([]:List BookCloth),l8,cD.2.2)
    else
     k80 ()
   else
    mP (uE)
   ) big ([],(0:Int))
  ) fun k5=>
 bif (decide (((x0).length : Int) > (10 : Int))) then
  some (([]:List BookCloth),(0:Int),(5:Int))
 else
  k5 ()

theorem g95_eq (x:List (List UInt8)):f95 x=g95 f134 x:=rfl
theorem k31:f31 [⟨258,3,0,0,5⟩]=some ([1,2,3,0,0,5,11,44],0,0):=by kernel_rfl
theorem k31a:f31 [⟨0,0,0,0,3⟩]=some ([0,0,0,0,0,3,3,18],0,0):=by kernel_rfl
theorem k31b:f31 [⟨5,0,0,0,2⟩]=some ([0,5,0,0,0,2,7,22],0,0):=by kernel_rfl
theorem k31c:f31 [⟨0,0,0,0,3⟩,⟨5,0,0,0,2⟩]=some ([0,0,0,0,0,3,3,18] ++ [0,5,0,0,0,2,7,22],0,0):=by kernel_rfl
theorem k32:f32 [1,2,3,0,0,5,11,44]=some ([⟨258,3,0,0,5⟩],0,0):=by kernel_rfl
theorem k37:f37 [1,2,3,0,0,6,11,44]=some ([⟨258,3,0,0,5⟩],0):=by kernel_rfl
theorem k53a:f53 0 3=some ⟨0,0,0,0,3⟩:=by kernel_rfl
theorem k53b:f53 5 2=some ⟨5,0,0,0,2⟩:=by kernel_rfl
theorem k67:f67 (⟨[⟨⟨[112,108,97,105,110]⟩,⟨2,[0,1,0]⟩⟩],[⟨⟨[116,119,105,108,108]⟩,⟨2,[⟨0,1,false⟩,⟨-1,1,true⟩]⟩⟩]⟩:BookMill)=some 0:=by kernel_rfl

theorem k95a':(fun srt=>g95 srt [[0,5,0,0,0,2,7,22],[0,0,0,0,0,3,3,18],[0,5,0,0,0,2,7,22]])=(fun srt=>(srt [⟨5,0,0,0,2⟩,⟨0,0,0,0,3⟩] fun a0 a1=>f89 a0 a1).bind fun z=>some (z,0,0)):=by kernel_rfl
theorem k95b':(fun srt=>g95 srt [[0,5,0,0,0,2,7,22],[0,0,0,0,0,3,3,18]])=(fun srt=>(srt [⟨5,0,0,0,2⟩,⟨0,0,0,0,3⟩] fun a0 a1=>f89 a0 a1).bind fun z=>some (z,0,0)):=by kernel_rfl
end Go.Proofs.YtmebkoemfjlbcaaGreatDoor
