/- Closed calls, run by the machine of plain data. -/
import Derived.Test.YtjoniingnbmljaaFb
import Derived.Test.YtjoniingnbmljaaProg
namespace Go.Proofs.Ytjoniingnbmljaa
open Go.RowKit
set_option maxRecDepth 100000
noncomputable def tabT:Tab:=⟨(.nd (.nd (.nd (.nd (.nd .nil none (.nd .nil none (.nd (.nd .nil (some (fi Try.f175)) .nil) none (.nd .nil (some (fi Try.f239)) .nil)))) none (.nd (.nd (.nd .nil (some (fi Try.f71)) .nil) none .nil) none (.nd (.nd (.nd .nil (some (fi Try.f151)) .nil) none .nil) none .nil))) none (.nd (.nd (.nd .nil (some (fi Try.f35)) (.nd .nil (some (fi Try.f99)) .nil)) none .nil) none .nil)) none (.nd (.nd (.nd .nil none (.nd .nil none (.nd (.nd .nil (some (fi Try.f177)) .nil) none (.nd .nil (some (fi Try.f241)) .nil)))) none (.nd (.nd .nil none (.nd .nil (some (fi Try.f105)) .nil)) none .nil)) none (.nd (.nd (.nd .nil none (.nd (.nd .nil (some (fi Try.f165)) .nil) (some (fi Try.f101)) .nil)) none .nil) (some (fi Try.f13)) (.nd (.nd .nil none (.nd (.nd .nil (some (fi Try.f173)) .nil) none .nil)) none .nil)))) none (.nd (.nd (.nd (.nd .nil none (.nd .nil none (.nd (.nd .nil (some (fi Try.f176)) .nil) none .nil))) none (.nd .nil none (.nd (.nd .nil (some (fi Try.f88)) .nil) none (.nd (.nd .nil (some (fi Try.f184)) .nil) none .nil)))) none (.nd (.nd (.nd .nil (some (fi Try.f36)) (.nd .nil (some (fi Try.f100)) .nil)) none .nil) none .nil)) none (.nd (.nd (.nd (.nd .nil none (.nd .nil (some (fi Try.f98)) .nil)) none (.nd (.nd (.nd (.nd .nil (some (fi Try.f274)) .nil) none .nil) none .nil) none (.nd (.nd .nil (some (fi Try.f178)) .nil) none .nil))) none .nil) none (.nd (.nd (.nd .nil none (.nd (.nd .nil (some (fi Try.f166)) .nil) none .nil)) none (.nd (.nd .nil (some (fi Try.f86)) .nil) none .nil)) none (.nd (.nd .nil none (.nd (.nd .nil (some (fi Try.f174)) .nil) none (.nd .nil (some (fi Try.f238)) .nil))) none .nil))))),[]⟩
noncomputable def tabLst:List (Nat × FI):=[(13,fi Try.f13),(35,fi Try.f35),(36,fi Try.f36),(71,fi Try.f71),(86,fi Try.f86),(88,fi Try.f88),(98,fi Try.f98),(99,fi Try.f99),(100,fi Try.f100),(101,fi Try.f101),(105,fi Try.f105),(151,fi Try.f151),(165,fi Try.f165),(166,fi Try.f166),(173,fi Try.f173),(174,fi Try.f174),(175,fi Try.f175),(176,fi Try.f176),(177,fi Try.f177),(178,fi Try.f178),(184,fi Try.f184),(238,fi Try.f238),(239,fi Try.f239),(241,fi Try.f241),(274,fi Try.f274)]
theorem tab_eq:tabT=tabL tabLst:=by kernel_rfl
theorem mixedK:Try.prog.follows .mixedOrders=true:=by kernel_rfl
theorem tab_ok:TabOk Try.prog tabT:=by
 rw [tab_eq]
 exact
  tok_cons (enters_of Try.func13 (by kernel_rfl) rfl) Try.func13 rfl (by kernel_rfl) <|
  tok_cons (enters_of Try.func35 (by kernel_rfl) rfl) Try.func35 rfl (by kernel_rfl) <|
  tok_cons (enters_of Try.func36 (by kernel_rfl) rfl) Try.func36 rfl (by kernel_rfl) <|
  tok_cons (enters_of Try.func71 (by kernel_rfl) rfl) Try.func71 rfl (by kernel_rfl) <|
  tok_cons (enters_of Try.func86 (by kernel_rfl) rfl) Try.func86 rfl (by kernel_rfl) <|
  tok_cons (enters_of Try.func88 (by kernel_rfl) rfl) Try.func88 rfl (by kernel_rfl) <|
  tok_cons (enters_of Try.func98 (by kernel_rfl) rfl) Try.func98 rfl (by kernel_rfl) <|
  tok_cons (enters_of Try.func99 (by kernel_rfl) rfl) Try.func99 rfl (by kernel_rfl) <|
  tok_cons (enters_of Try.func100 (by kernel_rfl) rfl) Try.func100 rfl (by kernel_rfl) <|
  tok_cons (enters_of Try.func101 (by kernel_rfl) rfl) Try.func101 rfl (by kernel_rfl) <|
  tok_cons (enters_of Try.func105 (by kernel_rfl) rfl) Try.func105 rfl (by kernel_rfl) <|
  tok_cons (enters_of Try.func151 (by kernel_rfl) rfl) Try.func151 rfl (by kernel_rfl) <|
  tok_cons (enters_of Try.func165 (by kernel_rfl) rfl) Try.func165 rfl (by kernel_rfl) <|
  tok_cons (enters_of Try.func166 (by kernel_rfl) rfl) Try.func166 rfl (by kernel_rfl) <|
  tok_cons (enters_of Try.func173 (by kernel_rfl) rfl) Try.func173 rfl (by kernel_rfl) <|
  tok_cons (enters_of Try.func174 (by kernel_rfl) rfl) Try.func174 rfl (by kernel_rfl) <|
  tok_cons (enters_of Try.func175 (by kernel_rfl) rfl) Try.func175 rfl (by kernel_rfl) <|
  tok_cons (enters_of Try.func176 (by kernel_rfl) rfl) Try.func176 rfl (by kernel_rfl) <|
  tok_cons (enters_of Try.func177 (by kernel_rfl) rfl) Try.func177 rfl (by kernel_rfl) <|
  tok_cons (enters_of Try.func178 (by kernel_rfl) rfl) Try.func178 rfl (by kernel_rfl) <|
  tok_cons (enters_of Try.func184 (by kernel_rfl) rfl) Try.func184 rfl (by kernel_rfl) <|
  tok_cons (enters_of Try.func238 (by kernel_rfl) rfl) Try.func238 rfl (by kernel_rfl) <|
  tok_cons (enters_of Try.func239 (by kernel_rfl) rfl) Try.func239 rfl (by kernel_rfl) <|
  tok_cons (enters_of Try.func241 (by kernel_rfl) rfl) Try.func241 rfl (by kernel_rfl) <|
  tok_cons (enters_of Try.func274 (by kernel_rfl) rfl) Try.func274 rfl (by kernel_rfl) <|
  tok_nil
theorem kn36:(fr Try.prog tabT 100000).f false cx0 36 [] S0 (fun v _=>isTrue v)=true:=by kernel_rfl
theorem wkK36 {gI:Gh} {wI:World}:Fn Try.prog 36 #[] gI wI (fun _ _ v=>v=.bool true):=fn_fast mixedK tab_ok kn36
end Go.Proofs.Ytjoniingnbmljaa
