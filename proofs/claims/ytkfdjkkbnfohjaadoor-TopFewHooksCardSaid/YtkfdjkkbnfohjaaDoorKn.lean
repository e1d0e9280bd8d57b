/- Closed calls, run by the machine of plain data. -/
import Derived.Test.YtkfdjkkbnfohjaaDoorFb
import Derived.Test.YtkfdjkkbnfohjaaDoorProg
namespace Go.Proofs.YtkfdjkkbnfohjaaDoor
open Go.RowKit
set_option maxRecDepth 100000
noncomputable def tabT : Tab := ⟨(.nd (.nd (.nd (.nd (.nd (.nd (.nd .nil none (.nd .nil (some (fi Tryd.f191)) .nil)) none (.nd (.nd .nil (some (fi Tryd.f159)) .nil) none .nil)) none .nil) none .nil) none (.nd (.nd (.nd .nil (some (fi Tryd.f35)) .nil) none (.nd (.nd (.nd .nil (some (fi Tryd.f147)) .nil) none .nil) none .nil)) none (.nd (.nd .nil none (.nd .nil (some (fi Tryd.f107)) .nil)) none (.nd (.nd .nil (some (fi Tryd.f91)) .nil) (some (fi Tryd.f59)) .nil)))) none (.nd (.nd (.nd .nil none (.nd (.nd .nil none (.nd .nil (some (fi Tryd.f209)) .nil)) none .nil)) none (.nd (.nd .nil none (.nd .nil (some (fi Tryd.f105)) .nil)) none (.nd .nil (some (fi Tryd.f57)) .nil))) none (.nd (.nd .nil (some (fi Tryd.f21)) .nil) none (.nd (.nd .nil none (.nd .nil (some (fi Tryd.f109)) .nil)) none (.nd (.nd (.nd .nil (some (fi Tryd.f157)) .nil) none .nil) (some (fi Tryd.f61)) .nil))))) none (.nd (.nd (.nd (.nd (.nd (.nd .nil none (.nd .nil (some (fi Tryd.f192)) .nil)) none (.nd (.nd .nil (some (fi Tryd.f160)) .nil) none .nil)) none .nil) none (.nd .nil (some (fi Tryd.f24)) (.nd .nil (some (fi Tryd.f56)) .nil))) none (.nd .nil none (.nd (.nd .nil none (.nd .nil (some (fi Tryd.f108)) .nil)) none (.nd .nil (some (fi Tryd.f60)) .nil)))) none (.nd (.nd .nil none (.nd (.nd .nil none (.nd .nil (some (fi Tryd.f106)) .nil)) none (.nd .nil (some (fi Tryd.f58)) .nil))) none (.nd .nil none (.nd .nil none (.nd (.nd (.nd .nil (some (fi Tryd.f158)) .nil) none .nil) (some (fi Tryd.f62)) (.nd (.nd .nil (some (fi Tryd.f190)) .nil) none .nil))))))), []⟩
noncomputable def tabLst : List (Nat × FI) := [(21, fi Tryd.f21), (24, fi Tryd.f24), (35, fi Tryd.f35), (56, fi Tryd.f56), (57, fi Tryd.f57), (58, fi Tryd.f58), (59, fi Tryd.f59), (60, fi Tryd.f60), (61, fi Tryd.f61), (62, fi Tryd.f62), (91, fi Tryd.f91), (105, fi Tryd.f105), (106, fi Tryd.f106), (107, fi Tryd.f107), (108, fi Tryd.f108), (109, fi Tryd.f109), (147, fi Tryd.f147), (157, fi Tryd.f157), (158, fi Tryd.f158), (159, fi Tryd.f159), (160, fi Tryd.f160), (190, fi Tryd.f190), (191, fi Tryd.f191), (192, fi Tryd.f192), (209, fi Tryd.f209)]
theorem tab_eq : tabT = tabL tabLst := by kernel_rfl
theorem mixedK : Tryd.prog.follows .mixedOrders = true := by kernel_rfl
theorem tab_ok : TabOk Tryd.prog tabT := by
 rw [tab_eq]
 exact
  tok_cons (enters_of Tryd.func21 (by kernel_rfl) rfl) Tryd.func21 rfl (by kernel_rfl) <|
  tok_cons (enters_of Tryd.func24 (by kernel_rfl) rfl) Tryd.func24 rfl (by kernel_rfl) <|
  tok_cons (enters_of Tryd.func35 (by kernel_rfl) rfl) Tryd.func35 rfl (by kernel_rfl) <|
  tok_cons (enters_of Tryd.func56 (by kernel_rfl) rfl) Tryd.func56 rfl (by kernel_rfl) <|
  tok_cons (enters_of Tryd.func57 (by kernel_rfl) rfl) Tryd.func57 rfl (by kernel_rfl) <|
  tok_cons (enters_of Tryd.func58 (by kernel_rfl) rfl) Tryd.func58 rfl (by kernel_rfl) <|
  tok_cons (enters_of Tryd.func59 (by kernel_rfl) rfl) Tryd.func59 rfl (by kernel_rfl) <|
  tok_cons (enters_of Tryd.func60 (by kernel_rfl) rfl) Tryd.func60 rfl (by kernel_rfl) <|
  tok_cons (enters_of Tryd.func61 (by kernel_rfl) rfl) Tryd.func61 rfl (by kernel_rfl) <|
  tok_cons (enters_of Tryd.func62 (by kernel_rfl) rfl) Tryd.func62 rfl (by kernel_rfl) <|
  tok_cons (enters_of Tryd.func91 (by kernel_rfl) rfl) Tryd.func91 rfl (by kernel_rfl) <|
  tok_cons (enters_of Tryd.func105 (by kernel_rfl) rfl) Tryd.func105 rfl (by kernel_rfl) <|
  tok_cons (enters_of Tryd.func106 (by kernel_rfl) rfl) Tryd.func106 rfl (by kernel_rfl) <|
  tok_cons (enters_of Tryd.func107 (by kernel_rfl) rfl) Tryd.func107 rfl (by kernel_rfl) <|
  tok_cons (enters_of Tryd.func108 (by kernel_rfl) rfl) Tryd.func108 rfl (by kernel_rfl) <|
  tok_cons (enters_of Tryd.func109 (by kernel_rfl) rfl) Tryd.func109 rfl (by kernel_rfl) <|
  tok_cons (enters_of Tryd.func147 (by kernel_rfl) rfl) Tryd.func147 rfl (by kernel_rfl) <|
  tok_cons (enters_of Tryd.func157 (by kernel_rfl) rfl) Tryd.func157 rfl (by kernel_rfl) <|
  tok_cons (enters_of Tryd.func158 (by kernel_rfl) rfl) Tryd.func158 rfl (by kernel_rfl) <|
  tok_cons (enters_of Tryd.func159 (by kernel_rfl) rfl) Tryd.func159 rfl (by kernel_rfl) <|
  tok_cons (enters_of Tryd.func160 (by kernel_rfl) rfl) Tryd.func160 rfl (by kernel_rfl) <|
  tok_cons (enters_of Tryd.func190 (by kernel_rfl) rfl) Tryd.func190 rfl (by kernel_rfl) <|
  tok_cons (enters_of Tryd.func191 (by kernel_rfl) rfl) Tryd.func191 rfl (by kernel_rfl) <|
  tok_cons (enters_of Tryd.func192 (by kernel_rfl) rfl) Tryd.func192 rfl (by kernel_rfl) <|
  tok_cons (enters_of Tryd.func209 (by kernel_rfl) rfl) Tryd.func209 rfl (by kernel_rfl) <|
  tok_nil
theorem kn24 : (fr Tryd.prog tabT 100000).f false cx0 24 [] S0 (fun v _ => isTrue v) = true := by kernel_rfl
theorem wkK24 {gI : Gh} {wI : World} : Fn Tryd.prog 24 #[] gI wI (fun _ _ v => v = .bool true) := fn_fast mixedK tab_ok kn24
end Go.Proofs.YtkfdjkkbnfohjaaDoor
