/- Closed calls, run by the machine of plain data. -/
import Derived.Test.YtpckllcdlpoieaaFb
import Derived.Test.YtpckllcdlpoieaaProg
namespace Go.Proofs.Ytpckllcdlpoieaa
open Go.RowKit
set_option maxRecDepth 100000
noncomputable def tabT:Tab:=⟨(.nd (.nd (.nd (.nd (.nd (.nd (.nd .nil (some (fi Try.f63)) .nil) none (.nd (.nd .nil (some (fi Try.f159)) .nil) none .nil)) none (.nd (.nd (.nd .nil (some (fi Try.f143)) .nil) (some (fi Try.f79)) .nil) none (.nd (.nd (.nd .nil (some (fi Try.f303)) .nil) none .nil) none .nil))) none (.nd (.nd (.nd (.nd .nil (some (fi Try.f135)) .nil) none (.nd (.nd .nil (some (fi Try.f327)) .nil) none .nil)) none (.nd .nil none (.nd .nil (some (fi Try.f231)) .nil))) (some (fi Try.f23)) (.nd (.nd (.nd .nil (some (fi Try.f151)) .nil) none (.nd .nil (some (fi Try.f215)) .nil)) none .nil))) none (.nd (.nd (.nd (.nd .nil (some (fi Try.f67)) (.nd (.nd .nil (some (fi Try.f323)) .nil) none .nil)) none (.nd (.nd .nil (some (fi Try.f163)) .nil) none .nil)) none (.nd (.nd .nil (some (fi Try.f83)) .nil) (some (fi Try.f51)) (.nd (.nd (.nd .nil (some (fi Try.f307)) .nil) none .nil) none .nil))) none (.nd (.nd (.nd (.nd (.nd .nil (some (fi Try.f267)) .nil) (some (fi Try.f139)) .nil) none .nil) none (.nd .nil none (.nd .nil (some (fi Try.f235)) .nil))) (some (fi Try.f27)) (.nd (.nd (.nd .nil (some (fi Try.f155)) .nil) none (.nd .nil (some (fi Try.f219)) .nil)) none .nil)))) none (.nd (.nd (.nd (.nd (.nd .nil (some (fi Try.f65)) (.nd (.nd .nil (some (fi Try.f321)) .nil) none .nil)) none (.nd (.nd .nil (some (fi Try.f161)) .nil) none .nil)) none (.nd (.nd (.nd (.nd .nil (some (fi Try.f273)) .nil) none .nil) (some (fi Try.f81)) .nil) none (.nd (.nd (.nd .nil (some (fi Try.f305)) .nil) none .nil) none .nil))) none (.nd (.nd (.nd (.nd .nil (some (fi Try.f137)) .nil) none .nil) none (.nd (.nd (.nd .nil (some (fi Try.f297)) .nil) none .nil) none (.nd .nil (some (fi Try.f233)) .nil))) (some (fi Try.f25)) (.nd (.nd (.nd .nil (some (fi Try.f153)) .nil) none (.nd .nil (some (fi Try.f217)) .nil)) none .nil))) none (.nd (.nd (.nd (.nd .nil (some (fi Try.f69)) .nil) none (.nd (.nd .nil (some (fi Try.f165)) .nil) none .nil)) (some (fi Try.f21)) (.nd (.nd .nil (some (fi Try.f85)) (.nd .nil (some (fi Try.f213)) .nil)) none .nil)) none (.nd (.nd (.nd (.nd .nil (some (fi Try.f141)) .nil) (some (fi Try.f77)) .nil) none (.nd (.nd (.nd .nil (some (fi Try.f301)) .nil) none .nil) none .nil)) none (.nd (.nd (.nd .nil (some (fi Try.f157)) .nil) none .nil) none (.nd (.nd (.nd .nil (some (fi Try.f317)) .nil) none .nil) none .nil)))))) none (.nd (.nd (.nd (.nd (.nd (.nd .nil (some (fi Try.f64)) .nil) none (.nd (.nd .nil (some (fi Try.f160)) .nil) none .nil)) none (.nd (.nd (.nd (.nd .nil (some (fi Try.f272)) .nil) none .nil) (some (fi Try.f80)) .nil) none (.nd (.nd (.nd .nil (some (fi Try.f304)) .nil) none .nil) none .nil))) none (.nd (.nd (.nd (.nd .nil (some (fi Try.f136)) .nil) none .nil) none (.nd .nil none (.nd .nil (some (fi Try.f232)) .nil))) (some (fi Try.f24)) (.nd (.nd (.nd .nil (some (fi Try.f152)) .nil) none (.nd .nil (some (fi Try.f216)) .nil)) none .nil))) none (.nd (.nd (.nd (.nd .nil (some (fi Try.f68)) .nil) none (.nd (.nd .nil (some (fi Try.f164)) .nil) none .nil)) none (.nd (.nd .nil (some (fi Try.f84)) (.nd .nil (some (fi Try.f212)) .nil)) none (.nd (.nd (.nd .nil (some (fi Try.f308)) .nil) none .nil) none .nil))) none (.nd (.nd (.nd (.nd (.nd .nil (some (fi Try.f268)) .nil) (some (fi Try.f140)) .nil) (some (fi Try.f76)) .nil) none (.nd (.nd (.nd .nil (some (fi Try.f300)) .nil) none .nil) none .nil)) none (.nd (.nd (.nd .nil (some (fi Try.f156)) .nil) none .nil) none (.nd (.nd (.nd .nil (some (fi Try.f316)) .nil) none .nil) none .nil))))) none (.nd (.nd (.nd (.nd (.nd .nil (some (fi Try.f66)) (.nd (.nd .nil (some (fi Try.f322)) .nil) none .nil)) none (.nd (.nd .nil (some (fi Try.f162)) .nil) none .nil)) none (.nd (.nd .nil (some (fi Try.f82)) .nil) none (.nd (.nd (.nd .nil (some (fi Try.f306)) .nil) none .nil) none .nil))) (some (fi Try.f10)) (.nd (.nd (.nd (.nd (.nd .nil (some (fi Try.f266)) .nil) (some (fi Try.f138)) .nil) none .nil) none (.nd (.nd (.nd .nil (some (fi Try.f298)) .nil) none .nil) none (.nd .nil (some (fi Try.f234)) .nil))) (some (fi Try.f26)) (.nd (.nd (.nd .nil (some (fi Try.f154)) .nil) none (.nd .nil (some (fi Try.f218)) .nil)) none .nil))) none (.nd (.nd (.nd (.nd (.nd .nil (some (fi Try.f134)) .nil) (some (fi Try.f70)) .nil) none (.nd .nil none (.nd .nil (some (fi Try.f230)) .nil))) (some (fi Try.f22)) (.nd (.nd .nil none (.nd .nil (some (fi Try.f214)) .nil)) none .nil)) none (.nd (.nd (.nd (.nd .nil (some (fi Try.f142)) .nil) (some (fi Try.f78)) .nil) none (.nd (.nd (.nd .nil (some (fi Try.f302)) .nil) none .nil) none .nil)) none (.nd (.nd (.nd .nil (some (fi Try.f158)) .nil) none .nil) (some (fi Try.f62)) .nil)))))),[]⟩
noncomputable def tabLst:List (Nat × FI):=[(10,fi Try.f10),(21,fi Try.f21),(22,fi Try.f22),(23,fi Try.f23),(24,fi Try.f24),(25,fi Try.f25),(26,fi Try.f26),(27,fi Try.f27),(51,fi Try.f51),(62,fi Try.f62),(63,fi Try.f63),(64,fi Try.f64),(65,fi Try.f65),(66,fi Try.f66),(67,fi Try.f67),(68,fi Try.f68),(69,fi Try.f69),(70,fi Try.f70),(76,fi Try.f76),(77,fi Try.f77),(78,fi Try.f78),(79,fi Try.f79),(80,fi Try.f80),(81,fi Try.f81),(82,fi Try.f82),(83,fi Try.f83),(84,fi Try.f84),(85,fi Try.f85),(134,fi Try.f134),(135,fi Try.f135),(136,fi Try.f136),(137,fi Try.f137),(138,fi Try.f138),(139,fi Try.f139),(140,fi Try.f140),(141,fi Try.f141),(142,fi Try.f142),(143,fi Try.f143),(151,fi Try.f151),(152,fi Try.f152),(153,fi Try.f153),(154,fi Try.f154),(155,fi Try.f155),(156,fi Try.f156),(157,fi Try.f157),(158,fi Try.f158),(159,fi Try.f159),(160,fi Try.f160),(161,fi Try.f161),(162,fi Try.f162),(163,fi Try.f163),(164,fi Try.f164),(165,fi Try.f165),(212,fi Try.f212),(213,fi Try.f213),(214,fi Try.f214),(215,fi Try.f215),(216,fi Try.f216),(217,fi Try.f217),(218,fi Try.f218),(219,fi Try.f219),(230,fi Try.f230),(231,fi Try.f231),(232,fi Try.f232),(233,fi Try.f233),(234,fi Try.f234),(235,fi Try.f235),(266,fi Try.f266),(267,fi Try.f267),(268,fi Try.f268),(272,fi Try.f272),(273,fi Try.f273),(297,fi Try.f297),(298,fi Try.f298),(300,fi Try.f300),(301,fi Try.f301),(302,fi Try.f302),(303,fi Try.f303),(304,fi Try.f304),(305,fi Try.f305),(306,fi Try.f306),(307,fi Try.f307),(308,fi Try.f308),(316,fi Try.f316),(317,fi Try.f317),(321,fi Try.f321),(322,fi Try.f322),(323,fi Try.f323),(327,fi Try.f327)]
theorem tab_eq:tabT=tabL tabLst:=by kernel_rfl
theorem mixedK:Try.prog.follows .mixedOrders=true:=by kernel_rfl
theorem tab_ok:TabOk Try.prog tabT:=by
 rw [tab_eq]
 exact
  tok_cons (enters_of Try.func10 (by kernel_rfl) rfl) Try.func10 rfl (by kernel_rfl) <|
  tok_cons (enters_of Try.func21 (by kernel_rfl) rfl) Try.func21 rfl (by kernel_rfl) <|
  tok_cons (enters_of Try.func22 (by kernel_rfl) rfl) Try.func22 rfl (by kernel_rfl) <|
  tok_cons (enters_of Try.func23 (by kernel_rfl) rfl) Try.func23 rfl (by kernel_rfl) <|
  tok_cons (enters_of Try.func24 (by kernel_rfl) rfl) Try.func24 rfl (by kernel_rfl) <|
  tok_cons (enters_of Try.func25 (by kernel_rfl) rfl) Try.func25 rfl (by kernel_rfl) <|
  tok_cons (enters_of Try.func26 (by kernel_rfl) rfl) Try.func26 rfl (by kernel_rfl) <|
  tok_cons (enters_of Try.func27 (by kernel_rfl) rfl) Try.func27 rfl (by kernel_rfl) <|
  tok_cons (enters_of Try.func51 (by kernel_rfl) rfl) Try.func51 rfl (by kernel_rfl) <|
  tok_cons (enters_of Try.func62 (by kernel_rfl) rfl) Try.func62 rfl (by kernel_rfl) <|
  tok_cons (enters_of Try.func63 (by kernel_rfl) rfl) Try.func63 rfl (by kernel_rfl) <|
  tok_cons (enters_of Try.func64 (by kernel_rfl) rfl) Try.func64 rfl (by kernel_rfl) <|
  tok_cons (enters_of Try.func65 (by kernel_rfl) rfl) Try.func65 rfl (by kernel_rfl) <|
  tok_cons (enters_of Try.func66 (by kernel_rfl) rfl) Try.func66 rfl (by kernel_rfl) <|
  tok_cons (enters_of Try.func67 (by kernel_rfl) rfl) Try.func67 rfl (by kernel_rfl) <|
  tok_cons (enters_of Try.func68 (by kernel_rfl) rfl) Try.func68 rfl (by kernel_rfl) <|
  tok_cons (enters_of Try.func69 (by kernel_rfl) rfl) Try.func69 rfl (by kernel_rfl) <|
  tok_cons (enters_of Try.func70 (by kernel_rfl) rfl) Try.func70 rfl (by kernel_rfl) <|
  tok_cons (enters_of Try.func76 (by kernel_rfl) rfl) Try.func76 rfl (by kernel_rfl) <|
  tok_cons (enters_of Try.func77 (by kernel_rfl) rfl) Try.func77 rfl (by kernel_rfl) <|
  tok_cons (enters_of Try.func78 (by kernel_rfl) rfl) Try.func78 rfl (by kernel_rfl) <|
  tok_cons (enters_of Try.func79 (by kernel_rfl) rfl) Try.func79 rfl (by kernel_rfl) <|
  tok_cons (enters_of Try.func80 (by kernel_rfl) rfl) Try.func80 rfl (by kernel_rfl) <|
  tok_cons (enters_of Try.func81 (by kernel_rfl) rfl) Try.func81 rfl (by kernel_rfl) <|
  tok_cons (enters_of Try.func82 (by kernel_rfl) rfl) Try.func82 rfl (by kernel_rfl) <|
  tok_cons (enters_of Try.func83 (by kernel_rfl) rfl) Try.func83 rfl (by kernel_rfl) <|
  tok_cons (enters_of Try.func84 (by kernel_rfl) rfl) Try.func84 rfl (by kernel_rfl) <|
  tok_cons (enters_of Try.func85 (by kernel_rfl) rfl) Try.func85 rfl (by kernel_rfl) <|
  tok_cons (enters_of Try.func134 (by kernel_rfl) rfl) Try.func134 rfl (by kernel_rfl) <|
  tok_cons (enters_of Try.func135 (by kernel_rfl) rfl) Try.func135 rfl (by kernel_rfl) <|
  tok_cons (enters_of Try.func136 (by kernel_rfl) rfl) Try.func136 rfl (by kernel_rfl) <|
  tok_cons (enters_of Try.func137 (by kernel_rfl) rfl) Try.func137 rfl (by kernel_rfl) <|
  tok_cons (enters_of Try.func138 (by kernel_rfl) rfl) Try.func138 rfl (by kernel_rfl) <|
  tok_cons (enters_of Try.func139 (by kernel_rfl) rfl) Try.func139 rfl (by kernel_rfl) <|
  tok_cons (enters_of Try.func140 (by kernel_rfl) rfl) Try.func140 rfl (by kernel_rfl) <|
  tok_cons (enters_of Try.func141 (by kernel_rfl) rfl) Try.func141 rfl (by kernel_rfl) <|
  tok_cons (enters_of Try.func142 (by kernel_rfl) rfl) Try.func142 rfl (by kernel_rfl) <|
  tok_cons (enters_of Try.func143 (by kernel_rfl) rfl) Try.func143 rfl (by kernel_rfl) <|
  tok_cons (enters_of Try.func151 (by kernel_rfl) rfl) Try.func151 rfl (by kernel_rfl) <|
  tok_cons (enters_of Try.func152 (by kernel_rfl) rfl) Try.func152 rfl (by kernel_rfl) <|
  tok_cons (enters_of Try.func153 (by kernel_rfl) rfl) Try.func153 rfl (by kernel_rfl) <|
  tok_cons (enters_of Try.func154 (by kernel_rfl) rfl) Try.func154 rfl (by kernel_rfl) <|
  tok_cons (enters_of Try.func155 (by kernel_rfl) rfl) Try.func155 rfl (by kernel_rfl) <|
  tok_cons (enters_of Try.func156 (by kernel_rfl) rfl) Try.func156 rfl (by kernel_rfl) <|
  tok_cons (enters_of Try.func157 (by kernel_rfl) rfl) Try.func157 rfl (by kernel_rfl) <|
  tok_cons (enters_of Try.func158 (by kernel_rfl) rfl) Try.func158 rfl (by kernel_rfl) <|
  tok_cons (enters_of Try.func159 (by kernel_rfl) rfl) Try.func159 rfl (by kernel_rfl) <|
  tok_cons (enters_of Try.func160 (by kernel_rfl) rfl) Try.func160 rfl (by kernel_rfl) <|
  tok_cons (enters_of Try.func161 (by kernel_rfl) rfl) Try.func161 rfl (by kernel_rfl) <|
  tok_cons (enters_of Try.func162 (by kernel_rfl) rfl) Try.func162 rfl (by kernel_rfl) <|
  tok_cons (enters_of Try.func163 (by kernel_rfl) rfl) Try.func163 rfl (by kernel_rfl) <|
  tok_cons (enters_of Try.func164 (by kernel_rfl) rfl) Try.func164 rfl (by kernel_rfl) <|
  tok_cons (enters_of Try.func165 (by kernel_rfl) rfl) Try.func165 rfl (by kernel_rfl) <|
  tok_cons (enters_of Try.func212 (by kernel_rfl) rfl) Try.func212 rfl (by kernel_rfl) <|
  tok_cons (enters_of Try.func213 (by kernel_rfl) rfl) Try.func213 rfl (by kernel_rfl) <|
  tok_cons (enters_of Try.func214 (by kernel_rfl) rfl) Try.func214 rfl (by kernel_rfl) <|
  tok_cons (enters_of Try.func215 (by kernel_rfl) rfl) Try.func215 rfl (by kernel_rfl) <|
  tok_cons (enters_of Try.func216 (by kernel_rfl) rfl) Try.func216 rfl (by kernel_rfl) <|
  tok_cons (enters_of Try.func217 (by kernel_rfl) rfl) Try.func217 rfl (by kernel_rfl) <|
  tok_cons (enters_of Try.func218 (by kernel_rfl) rfl) Try.func218 rfl (by kernel_rfl) <|
  tok_cons (enters_of Try.func219 (by kernel_rfl) rfl) Try.func219 rfl (by kernel_rfl) <|
  tok_cons (enters_of Try.func230 (by kernel_rfl) rfl) Try.func230 rfl (by kernel_rfl) <|
  tok_cons (enters_of Try.func231 (by kernel_rfl) rfl) Try.func231 rfl (by kernel_rfl) <|
  tok_cons (enters_of Try.func232 (by kernel_rfl) rfl) Try.func232 rfl (by kernel_rfl) <|
  tok_cons (enters_of Try.func233 (by kernel_rfl) rfl) Try.func233 rfl (by kernel_rfl) <|
  tok_cons (enters_of Try.func234 (by kernel_rfl) rfl) Try.func234 rfl (by kernel_rfl) <|
  tok_cons (enters_of Try.func235 (by kernel_rfl) rfl) Try.func235 rfl (by kernel_rfl) <|
  tok_cons (enters_of Try.func266 (by kernel_rfl) rfl) Try.func266 rfl (by kernel_rfl) <|
  tok_cons (enters_of Try.func267 (by kernel_rfl) rfl) Try.func267 rfl (by kernel_rfl) <|
  tok_cons (enters_of Try.func268 (by kernel_rfl) rfl) Try.func268 rfl (by kernel_rfl) <|
  tok_cons (enters_of Try.func272 (by kernel_rfl) rfl) Try.func272 rfl (by kernel_rfl) <|
  tok_cons (enters_of Try.func273 (by kernel_rfl) rfl) Try.func273 rfl (by kernel_rfl) <|
  tok_cons (enters_of Try.func297 (by kernel_rfl) rfl) Try.func297 rfl (by kernel_rfl) <|
  tok_cons (enters_of Try.func298 (by kernel_rfl) rfl) Try.func298 rfl (by kernel_rfl) <|
  tok_cons (enters_of Try.func300 (by kernel_rfl) rfl) Try.func300 rfl (by kernel_rfl) <|
  tok_cons (enters_of Try.func301 (by kernel_rfl) rfl) Try.func301 rfl (by kernel_rfl) <|
  tok_cons (enters_of Try.func302 (by kernel_rfl) rfl) Try.func302 rfl (by kernel_rfl) <|
  tok_cons (enters_of Try.func303 (by kernel_rfl) rfl) Try.func303 rfl (by kernel_rfl) <|
  tok_cons (enters_of Try.func304 (by kernel_rfl) rfl) Try.func304 rfl (by kernel_rfl) <|
  tok_cons (enters_of Try.func305 (by kernel_rfl) rfl) Try.func305 rfl (by kernel_rfl) <|
  tok_cons (enters_of Try.func306 (by kernel_rfl) rfl) Try.func306 rfl (by kernel_rfl) <|
  tok_cons (enters_of Try.func307 (by kernel_rfl) rfl) Try.func307 rfl (by kernel_rfl) <|
  tok_cons (enters_of Try.func308 (by kernel_rfl) rfl) Try.func308 rfl (by kernel_rfl) <|
  tok_cons (enters_of Try.func316 (by kernel_rfl) rfl) Try.func316 rfl (by kernel_rfl) <|
  tok_cons (enters_of Try.func317 (by kernel_rfl) rfl) Try.func317 rfl (by kernel_rfl) <|
  tok_cons (enters_of Try.func321 (by kernel_rfl) rfl) Try.func321 rfl (by kernel_rfl) <|
  tok_cons (enters_of Try.func322 (by kernel_rfl) rfl) Try.func322 rfl (by kernel_rfl) <|
  tok_cons (enters_of Try.func323 (by kernel_rfl) rfl) Try.func323 rfl (by kernel_rfl) <|
  tok_cons (enters_of Try.func327 (by kernel_rfl) rfl) Try.func327 rfl (by kernel_rfl) <|
  tok_nil
theorem kn26:(fr Try.prog tabT 100000).f false cx0 26 [] S0 (fun v _=>isTrue v)=true:=by kernel_rfl
theorem wkK26 {gI:Gh} {wI:World}:Fn Try.prog 26 #[] gI wI (fun _ _ v=>v=.bool true):=fn_fast mixedK tab_ok kn26
theorem kn27:(fr Try.prog tabT 100000).f false cx0 27 [] S0 (fun v _=>isTrue v)=true:=by kernel_rfl
theorem wkK27 {gI:Gh} {wI:World}:Fn Try.prog 27 #[] gI wI (fun _ _ v=>v=.bool true):=fn_fast mixedK tab_ok kn27
end Go.Proofs.Ytpckllcdlpoieaa
