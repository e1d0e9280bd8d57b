import Derived.Test.YtmebkoemfjlbcaaGreatDoorCode5
/- All functions of this text. -/
/- B8 of chapter 13: all calls answer as the examples say. -/
set_option maxRecDepth 100000
set_option maxHeartbeats 4000000
namespace Go.Proofs.YtmebkoemfjlbcaaGreatDoor
open Go.RowKit Go.Sort
theorem Hv {α β : Type} {x : Option α} {k : α → Option β} {a : α} {r : Option β} (h : x = some a) (h2 : k a = r) : x.bind k = r := by rw [h]; exact h2
theorem k15 : f15 (⟨3, [3, 4]⟩ : Tb) = some ((⟨[120, 120, 46, 10, 46, 46, 120, 10]⟩ : Str), 0) := by kernel_rfl
theorem k19 : f19 (⟨[120, 120, 46, 10, 46, 46, 120, 10]⟩ : Str) = some ((⟨3, [3, 4]⟩ : Tb), 0, 0) := by kernel_rfl
theorem k52 : f52 = some (⟨[⟨⟨[112, 108, 97, 105, 110]⟩, ⟨2, [0, 1, 0]⟩⟩], [⟨⟨[116, 119, 105, 108, 108]⟩, ⟨2, [⟨0, 1, false⟩, ⟨-1, 1, true⟩]⟩⟩]⟩ : Gg) := by kernel_rfl
theorem k23 : f23 (⟨[⟨⟨[112, 108, 97, 105, 110]⟩, ⟨2, [0, 1, 0]⟩⟩], [⟨⟨[116, 119, 105, 108, 108]⟩, ⟨2, [⟨0, 1, false⟩, ⟨-1, 1, true⟩]⟩⟩]⟩ : Gg) = some ((⟨[109, 105, 108, 108, 10, 116, 105, 101, 32, 112, 108, 97, 105, 110, 32, 50, 32, 48, 32, 49, 32, 48, 10, 99, 104, 97, 105, 110, 32, 116, 119, 105, 108, 108, 32, 50, 10, 99, 97, 114, 100, 32, 48, 32, 120, 46, 10, 116, 117, 114, 110, 101, 100, 32, 63, 32, 120, 46, 10, 101, 110, 100, 32, 53, 32, 52, 53, 49, 51, 10]⟩ : Str), 0) := by kernel_rfl
theorem k26 : f26 (⟨[109, 105, 108, 108, 10, 116, 105, 101, 32, 112, 108, 97, 105, 110, 32, 50, 32, 48, 32, 49, 32, 48, 10, 99, 104, 97, 105, 110, 32, 116, 119, 105, 108, 108, 32, 50, 10, 99, 97, 114, 100, 32, 48, 32, 120, 46, 10, 116, 117, 114, 110, 101, 100, 32, 63, 32, 120, 46, 10, 101, 110, 100, 32, 53, 32, 52, 53, 49, 51, 10]⟩ : Str) = some ((⟨[⟨⟨[112, 108, 97, 105, 110]⟩, ⟨2, [0, 1, 0]⟩⟩], [⟨⟨[116, 119, 105, 108, 108]⟩, ⟨2, [⟨0, 1, false⟩, ⟨-1, 1, true⟩]⟩⟩]⟩ : Gg), 0, 0) := by kernel_rfl

def g95 (srt : List Z2 → (Z2 → Z2 → Option Int) → Option (List Z2)) (x0 : List (List UInt8)) : Option ((List Z2) × Int × Int) :=
 jn (σ := Unit) (fun _ =>
  jn (σ := (List (List Z2))) (fun lB =>
   jn (σ := (List Z2)) (fun yE =>
    jn (σ := Unit) (fun _ =>
     (srt yE ((fun a0 a1 => f89 a0 a1))).bind fun cO =>
     some (cO, (0 : Int), (0 : Int))
     ) fun dO =>
    bif (decide (((yE).length : Int) > (100 : Int))) then
     some (([] : List Z2), (0 : Int), (5 : Int))
    else
     dO ()
    ) fun eO =>
   lp (σ := (List Z2) × (List (Gu × Z2)) × Int) (fun gO (jG, dI, aB) =>
    bif (decide (aB < ((lB).length : Int))) then
     jn (σ := (List Z2) × (List (Gu × Z2))) (fun (yH, yG) =>
      gO (yH, yG, (w64 (aB + (1 : Int))))
      ) fun jO =>
     (idx lB aB).bind fun lE =>
     lp (σ := (List Z2) × (List (Gu × Z2)) × Int) (fun kO (mE, n9, oB) =>
      bif (decide (oB < ((lE).length : Int))) then
       jn (σ := (List Z2) × (List (Gu × Z2))) (fun (zH, zG) =>
        kO (zH, zG, (w64 (oB + (1 : Int))))
        ) fun tK =>
       (idx lE oB).bind fun n8 =>
       jn (σ := Unit) (fun _ =>
        bif (!((Jq n9 ((⟨(n8).Day, (n8).Loom⟩ : Gu))).isSome)) then
         (apnd 40 mE (([n8] : List Z2))).bind fun uK =>
         tK (uK, (Bp n9 ((⟨(n8).Day, (n8).Loom⟩ : Gu)) n8))
        else
         tK (mE, n9)
        ) fun lO =>
       Option.bind (α := Bool) (
        bif ((Jq n9 ((⟨(n8).Day, (n8).Loom⟩ : Gu))).isSome) then
         some ((!(decide (((Jq n9 ((⟨(n8).Day, (n8).Loom⟩ : Gu))).getD (⟨0, 0, 0, 0, 0⟩ : Z2)) = n8))))
        else
         some (false)
        ) fun zE =>
       bif zE then
        some (([] : List Z2), aB, (6 : Int))
       else
        lO ()
      else
       jO (mE, n9)
      ) big (jG, dI, (0 : Int))
    else
     eO (jG)
    ) big (([] : List Z2), ([] : List (Gu × Z2)), (0 : Int))
   ) fun aR =>
  lp (σ := (List (List Z2)) × Int) (fun dR (aG, mB) =>
   bif (decide (mB < ((x0).length : Int))) then
    jn (σ := (List (List Z2))) (fun pJ =>
     dR (pJ, (w64 (mB + (1 : Int))))
     ) fun eR =>
    (idx x0 mB).bind fun gR =>
    (f32 gR).bind fun oE =>
    jn (σ := Unit) (fun _ =>
     (apnd 24 aG (([oE.1] : List (List Z2)))).bind fun mO =>
     eR (mO)
     ) fun k80 =>
    bif (oE.2.2 != (0 : Int)) then
     some (([] : List Z2), mB, oE.2.2)
    else
     k80 ()
   else
    aR (aG)
   ) big ([], (0 : Int))
  ) fun k5 =>
 bif (decide (((x0).length : Int) > (10 : Int))) then
  some (([] : List Z2), (0 : Int), (5 : Int))
 else
  k5 ()

theorem Mx (x : List (List UInt8)) : f95 x = g95 f134 x := rfl
theorem k31 : f31 [⟨258, 3, 0, 0, 5⟩] = some ([1, 2, 3, 0, 0, 5, 11, 44], 0, 0) := by kernel_rfl
theorem k31a : f31 [⟨0, 0, 0, 0, 3⟩] = some ([0, 0, 0, 0, 0, 3, 3, 18], 0, 0) := by kernel_rfl
theorem k31b : f31 [⟨5, 0, 0, 0, 2⟩] = some ([0, 5, 0, 0, 0, 2, 7, 22], 0, 0) := by kernel_rfl
theorem k31c : f31 [⟨0, 0, 0, 0, 3⟩, ⟨5, 0, 0, 0, 2⟩] = some ([0, 0, 0, 0, 0, 3, 3, 18] ++ [0, 5, 0, 0, 0, 2, 7, 22], 0, 0) := by kernel_rfl
theorem k32 : f32 [1, 2, 3, 0, 0, 5, 11, 44] = some ([⟨258, 3, 0, 0, 5⟩], 0, 0) := by kernel_rfl
theorem k37 : f37 [1, 2, 3, 0, 0, 6, 11, 44] = some ([⟨258, 3, 0, 0, 5⟩], 0) := by kernel_rfl
theorem k53a : f53 0 3 = some ⟨0, 0, 0, 0, 3⟩ := by kernel_rfl
theorem k53b : f53 5 2 = some ⟨5, 0, 0, 0, 2⟩ := by kernel_rfl
theorem k67 : f67 (⟨[⟨⟨[112, 108, 97, 105, 110]⟩, ⟨2, [0, 1, 0]⟩⟩], [⟨⟨[116, 119, 105, 108, 108]⟩, ⟨2, [⟨0, 1, false⟩, ⟨-1, 1, true⟩]⟩⟩]⟩ : Gg) = some 0 := by kernel_rfl

theorem k95a' : (fun srt => g95 srt [[0, 5, 0, 0, 0, 2, 7, 22], [0, 0, 0, 0, 0, 3, 3, 18], [0, 5, 0, 0, 0, 2, 7, 22]]) = (fun srt => (srt [⟨5, 0, 0, 0, 2⟩, ⟨0, 0, 0, 0, 3⟩] fun a0 a1 => f89 a0 a1).bind fun z => some (z, 0, 0)) := by kernel_rfl
theorem k95b' : (fun srt => g95 srt [[0, 5, 0, 0, 0, 2, 7, 22], [0, 0, 0, 0, 0, 3, 3, 18]]) = (fun srt => (srt [⟨5, 0, 0, 0, 2⟩, ⟨0, 0, 0, 0, 3⟩] fun a0 a1 => f89 a0 a1).bind fun z => some (z, 0, 0)) := by kernel_rfl
end Go.Proofs.YtmebkoemfjlbcaaGreatDoor
