/-
 Loops and functions reckoned by the kernel, from their code with types in place. Conditions: each lemma says its own.
-/
import Derived.Test.YtplebjehcgcdeaaGreatDoorQT23
import Derived.Test.YtplebjehcgcdeaaGreatDoorChecked
import Derived.Test.YtplebjehcgcdeaaGreatDoorQT24
import Derived.Shelf.Small.Strs
import Derived.Shelf.Strings.Search3
import Derived.Shelf.Strconv.Itoa3
import Derived.Shelf.Strconv.AtoiAll
import Derived.Test.YtplebjehcgcdeaaGreatDoorQT16
import Derived.Test.YtplebjehcgcdeaaGreatDoorQT13
import Derived.Test.YtplebjehcgcdeaaGreatDoorRows
import Derived.Test.YtplebjehcgcdeaaGreatDoorTie
import Derived.ProofKit
import Derived.LaidMore
import Derived.OpenShut
import Derived.Shelf.Vars
import Derived.Stop.LaidTwo
import Derived.LaidSub
import Derived.Test.YtplebjehcgcdeaaGreatDoorQT15
namespace Go.Proofs.YtplebjehcgcdeaaGreatDoor
open Go Go.RowKit Go.Shelf
def layBd_ren:Go.Shelf.Ren:=⟨fun | 240=>116 | 276=>170 | 169=>52 | n=>n,fun | 0=>0 | 3=>3 | 4=>4 | 5=>5 | 9=>9 | 20=>20 | 37=>94 | 70=>93 | 72=>96 | 127=>165 | 164=>206 | n=>n,fun | n=>n⟩
theorem layB240:Go.Proofs.Lays.n240 Tryz.prog layBd_ren:={
 mixed:=by kernel_rfl
 f240:=Tryz.func116.trans (congrArg some (by kernel_rfl))
 f276:=Tryz.func170.trans (congrArg some (by kernel_rfl))
 t0:=Tryz.underlying0
 a0:=Tryz.isAgg0
 z0:=Tryz.sizeOf0
 v0:=Tryz.zeroValue0
 t4:=Tryz.underlying4
 a4:=Tryz.isAgg4
 z4:=Tryz.sizeOf4
 v4:=Tryz.zeroValue4
 t9:=Tryz.underlying9
 a9:=Tryz.isAgg9
 z9:=Tryz.sizeOf9
 v9:=Tryz.zeroValue9
 t20:=Tryz.underlying20
 a20:=Tryz.isAgg20
 z20:=Tryz.sizeOf20
 v20:=Tryz.zeroValue20
 t70:=Tryz.underlying93
 a70:=Tryz.isAgg93
 z70:=Tryz.sizeOf93
 v70:=Tryz.zeroValue93
 t72:=Tryz.underlying96
 a72:=Tryz.isAgg96
 z72:=Tryz.sizeOf96
 v72:=Tryz.zeroValue96
 t164:=Tryz.underlying206
 a164:=Tryz.isAgg206
 z164:=Tryz.sizeOf206
 v164:=Tryz.zeroValue206 }
theorem layB169:Go.Proofs.Lays.n169 Tryz.prog layBd_ren:={
 mixed:=by kernel_rfl
 f169:=Tryz.func52.trans (congrArg some (by kernel_rfl))
 t0:=Tryz.underlying0
 a0:=Tryz.isAgg0
 z0:=Tryz.sizeOf0
 v0:=Tryz.zeroValue0
 t3:=Tryz.underlying3
 a3:=Tryz.isAgg3
 z3:=Tryz.sizeOf3
 v3:=Tryz.zeroValue3
 t9:=Tryz.underlying9
 a9:=Tryz.isAgg9
 z9:=Tryz.sizeOf9
 v9:=Tryz.zeroValue9
 t37:=Tryz.underlying94
 a37:=Tryz.isAgg94
 z37:=Tryz.sizeOf94
 v37:=Tryz.zeroValue94
 t70:=Tryz.underlying93
 a70:=Tryz.isAgg93
 z70:=Tryz.sizeOf93
 v70:=Tryz.zeroValue93
 t72:=Tryz.underlying96
 a72:=Tryz.isAgg96
 z72:=Tryz.sizeOf96
 v72:=Tryz.zeroValue96
 t127:=Tryz.underlying165
 a127:=Tryz.isAgg165
 z127:=Tryz.sizeOf165
 v127:=Tryz.zeroValue165 }
theorem layX72:Go.Proofs.Builder.X72 Tryz.prog layBd_ren:={
 sizeBuilder:=by kernel_rfl
 liesBuilder:=by kernel_rfl }
theorem layXB:Go.Proofs.Builder.Extra Tryz.prog layBd_ren:={
 toX72:=layX72
 t5:=Tryz.underlying5
 a5:=Tryz.isAgg5
 z5:=Tryz.sizeOf5
 v5:=Tryz.zeroValue5
 infoByte:=by kernel_rfl
 cellsByte:=by kernel_rfl
 sizeByte:=by kernel_rfl
 neB5:=by decide }
theorem conBld:Bm.BldCon Tryz.prog 116 52 96 5 where
 ccd:=⟨_,Tryz.func116,rfl⟩
 std:=⟨_,Tryz.func52,rfl⟩
 fresh b n w h0 hsh hn hfz:=Bm.fresh_walk layB240 layX72 (of_decide_eq_true (by kernel_rfl)) (by kernel_rfl) b n w h0 hsh hn hfz
 used b w h0:=Any.Builder_copyCheck_used layB240 layX72 b w h0
 str b g cap m l w c0 hsh h0 hcap hm h63 hcell:=Bm.string_walk layB169 layXB b g cap m l w c0 hsh h0 hcap hm h63 hcell
end Go.Proofs.YtplebjehcgcdeaaGreatDoor
namespace Go.Proofs.YtplebjehcgcdeaaGreatDoor
open Go Go.RowKit Go.Shelf Go.Sort
def laysPrb_ren:Go.Shelf.Ren:=⟨fun | 6=>95 | 15=>154 | 14=>153 | 28=>200 | 29=>201 | 20=>192 | 21=>193 | 22=>194 | 23=>195 | 24=>196 | 25=>197 | 26=>198 | 27=>199 | 46=>222 | 47=>223 | 48=>224 | 49=>225 | 50=>226 | 57=>257 | n=>n,fun | 22=>68 | 24=>67 | 25=>146 | 3=>3 | 39=>192 | 0=>0 | 53=>228 | 55=>230 | 4=>4 | 46=>221 | 45=>220 | 50=>225 | 5=>5 | 9=>9 | 66=>249 | 70=>253 | 76=>279 | 77=>280 | n=>n,fun | n=>n⟩
theorem laysPrb:Go.Proofs.SlLaysF0.n6 Tryz.prog laysPrb_ren:={
 mixed:=by kernel_rfl
 f6:=⟨Tryz.f95.name,by decide,Tryz.func95.trans (congrArg some (by kernel_rfl))⟩
 f14:=⟨Tryz.f153.name,by decide,Tryz.func153.trans (congrArg some (by kernel_rfl))⟩
 f15:=Tryz.func154.trans (congrArg some (by kernel_rfl))
 f20:=⟨Tryz.f192.name,by decide,Tryz.func192.trans (congrArg some (by kernel_rfl))⟩
 f21:=⟨Tryz.f193.name,by decide,Tryz.func193.trans (congrArg some (by kernel_rfl))⟩
 f22:=⟨Tryz.f194.name,by decide,Tryz.func194.trans (congrArg some (by kernel_rfl))⟩
 f23:=⟨Tryz.f195.name,by decide,Tryz.func195.trans (congrArg some (by kernel_rfl))⟩
 f24:=⟨Tryz.f196.name,by decide,Tryz.func196.trans (congrArg some (by kernel_rfl))⟩
 f25:=⟨Tryz.f197.name,by decide,Tryz.func197.trans (congrArg some (by kernel_rfl))⟩
 f26:=⟨Tryz.f198.name,by decide,Tryz.func198.trans (congrArg some (by kernel_rfl))⟩
 f27:=⟨Tryz.f199.name,by decide,Tryz.func199.trans (congrArg some (by kernel_rfl))⟩
 f28:=Tryz.func200.trans (congrArg some (by kernel_rfl))
 f29:=Tryz.func201.trans (congrArg some (by kernel_rfl))
 f46:=⟨Tryz.f222.name,by decide,Tryz.func222.trans (congrArg some (by kernel_rfl))⟩
 f47:=Tryz.func223.trans (congrArg some (by kernel_rfl))
 f48:=Tryz.func224.trans (congrArg some (by kernel_rfl))
 f49:=⟨Tryz.f225.name,by decide,Tryz.func225.trans (congrArg some (by kernel_rfl))⟩
 f50:=⟨Tryz.f226.name,by decide,Tryz.func226.trans (congrArg some (by kernel_rfl))⟩
 f57:=⟨Tryz.f257.name,by decide,Tryz.func257.trans (congrArg some (by kernel_rfl))⟩
 t0:=Tryz.underlying0
 a0:=Tryz.isAgg0
 z0:=Tryz.sizeOf0
 v0:=Tryz.zeroValue0
 t3:=Tryz.underlying3
 a3:=Tryz.isAgg3
 z3:=Tryz.sizeOf3
 v3:=Tryz.zeroValue3
 t4:=Tryz.underlying4
 a4:=Tryz.isAgg4
 z4:=Tryz.sizeOf4
 v4:=Tryz.zeroValue4
 t5:=Tryz.underlying5
 a5:=Tryz.isAgg5
 z5:=Tryz.sizeOf5
 v5:=Tryz.zeroValue5
 t9:=Tryz.underlying9
 a9:=Tryz.isAgg9
 z9:=Tryz.sizeOf9
 v9:=Tryz.zeroValue9
 t22:=Tryz.underlying68
 a22:=Tryz.isAgg68
 z22:=Tryz.sizeOf68
 v22:=Tryz.zeroValue68
 t25:=Tryz.underlying146
 a25:=Tryz.isAgg146
 z25:=Tryz.sizeOf146
 v25:=Tryz.zeroValue146
 t39:=Tryz.underlying192
 a39:=Tryz.isAgg192
 z39:=Tryz.sizeOf192
 v39:=Tryz.zeroValue192
 t45:=Tryz.underlying220
 a45:=Tryz.isAgg220
 z45:=Tryz.sizeOf220
 v45:=Tryz.zeroValue220
 t46:=Tryz.underlying221
 a46:=Tryz.isAgg221
 z46:=Tryz.sizeOf221
 v46:=Tryz.zeroValue221
 t50:=Tryz.underlying225
 a50:=Tryz.isAgg225
 z50:=Tryz.sizeOf225
 v50:=Tryz.zeroValue225
 t53:=Tryz.underlying228
 a53:=Tryz.isAgg228
 z53:=Tryz.sizeOf228
 v53:=Tryz.zeroValue228
 t55:=Tryz.underlying230
 a55:=Tryz.isAgg230
 z55:=Tryz.sizeOf230
 v55:=Tryz.zeroValue230
 t66:=Tryz.underlying249
 a66:=Tryz.isAgg249
 z66:=Tryz.sizeOf249
 v66:=Tryz.zeroValue249
 t70:=Tryz.underlying253
 a70:=Tryz.isAgg253
 z70:=Tryz.sizeOf253
 v70:=Tryz.zeroValue253
 t76:=Tryz.underlying279
 a76:=Tryz.isAgg279
 z76:=Tryz.sizeOf279
 v76:=Tryz.zeroValue279
 t77:=Tryz.underlying280
 a77:=Tryz.isAgg280
 z77:=Tryz.sizeOf280
 v77:=Tryz.zeroValue280 }
theorem conPrb:Bm.PrbCon Tryz.prog 95 96 where
 dfd:=⟨_,Tryz.func95,rfl⟩
 nls p cap x w:=AnyF.slices_SortFunc_none laysPrb p cap _ w
 sort cf hO x blk off cap d w hcmp hH hb hsz :=
  AnyQ.slices_SortFunc laysPrb 4 Tryz.isAgg67 Tryz.sizeOf67 Bm.prV (fun _=>rfl) (fun x v hv=>by simp [Bm.prV] at hv;rcases hv with rfl | rfl | rfl | rfl <;> rfl) cf hO 96 #[x] blk off cap d w
   (enters_of Tryz.func96 (by kernel_rfl) rfl) hcmp hH hb hsz
end Go.Proofs.YtplebjehcgcdeaaGreatDoor
namespace Go.Proofs.YtplebjehcgcdeaaGreatDoor
open Go Go.RowKit Go.Shelf Go.Sort
def layIB_ren:Go.Shelf.Ren:=⟨fun | 137=>183 | 217=>217 | 266=>250 | n=>n,fun | 9=>9 | 5=>5 | 3=>3 | n=>n,fun | n=>n⟩
theorem layIB:Go.Proofs.Lays.n137 Tryz.prog layIB_ren:={
 mixed:=by kernel_rfl
 f137:=Tryz.func183.trans (congrArg some (by kernel_rfl))
 f217:=Tryz.func217.trans (congrArg some (by kernel_rfl))
 f266:=Tryz.func250.trans (congrArg some (by kernel_rfl))
 t3:=Tryz.underlying3
 a3:=Tryz.isAgg3
 z3:=Tryz.sizeOf3
 v3:=Tryz.zeroValue3
 t5:=Tryz.underlying5
 a5:=Tryz.isAgg5
 z5:=Tryz.sizeOf5
 v5:=Tryz.zeroValue5
 t9:=Tryz.underlying9
 a9:=Tryz.isAgg9
 z9:=Tryz.sizeOf9
 v9:=Tryz.zeroValue9 }
def layCo_ren:Go.Shelf.Ren:=⟨fun | 144=>133 | 143=>178 | 219=>214 | 217=>217 | 225=>247 | 224=>248 | 267=>249 | 266=>250 | 314=>266 | n=>n,fun | 9=>9 | 4=>4 | 3=>3 | 5=>5 | 46=>192 | 146=>288 | 51=>228 | n=>n,fun | 1=>0 | n=>n⟩
theorem layCo:Go.Proofs.Lays.n144 Tryz.prog layCo_ren:={
 mixed:=by kernel_rfl
 f143:=Tryz.func178.trans (congrArg some (by kernel_rfl))
 f144:=Tryz.func133.trans (congrArg some (by kernel_rfl))
 f217:=Tryz.func217.trans (congrArg some (by kernel_rfl))
 f219:=Tryz.func214.trans (congrArg some (by kernel_rfl))
 f224:=Tryz.func248.trans (congrArg some (by kernel_rfl))
 f225:=Tryz.func247.trans (congrArg some (by kernel_rfl))
 f266:=Tryz.func250.trans (congrArg some (by kernel_rfl))
 f267:=Tryz.func249.trans (congrArg some (by kernel_rfl))
 f314:=Tryz.func266.trans (congrArg some (by kernel_rfl))
 t3:=Tryz.underlying3
 a3:=Tryz.isAgg3
 z3:=Tryz.sizeOf3
 v3:=Tryz.zeroValue3
 t4:=Tryz.underlying4
 a4:=Tryz.isAgg4
 z4:=Tryz.sizeOf4
 v4:=Tryz.zeroValue4
 t5:=Tryz.underlying5
 a5:=Tryz.isAgg5
 z5:=Tryz.sizeOf5
 v5:=Tryz.zeroValue5
 t9:=Tryz.underlying9
 a9:=Tryz.isAgg9
 z9:=Tryz.sizeOf9
 v9:=Tryz.zeroValue9
 t46:=Tryz.underlying192
 a46:=Tryz.isAgg192
 z46:=Tryz.sizeOf192
 v46:=Tryz.zeroValue192
 t51:=Tryz.underlying228
 a51:=Tryz.isAgg228
 z51:=Tryz.sizeOf228
 v51:=Tryz.zeroValue228
 t146:=Tryz.underlying288
 a146:=Tryz.isAgg288
 z146:=Tryz.sizeOf288
 v146:=Tryz.zeroValue288
 g1:=by kernel_rfl }
def layIt_ren:Go.Shelf.Ren:=⟨fun | 171=>119 | 243=>171 | 246=>212 | 283=>234 | 284=>235 | 285=>236 | 286=>237 | 129=>201 | 317=>259 | 318=>260 | 319=>261 | 320=>262 | 337=>279 | 338=>280 | n=>n,fun | 3=>3 | 9=>9 | 2=>2 | 4=>4 | 171=>263 | 0=>0 | 53=>230 | 37=>94 | 5=>5 | 173=>265 | 212=>284 | 51=>228 | 20=>20 | 213=>285 | 46=>192 | 232=>307 | 233=>308 | n=>n,fun | 17=>1 | 18=>4 | 19=>5 | n=>n⟩
theorem layIt:Go.Proofs.LaysM.n171 Tryz.prog layIt_ren:={
 mixed:=by kernel_rfl
 f129:=Tryz.func201.trans (congrArg some (by kernel_rfl))
 f171:=Tryz.func119.trans (congrArg some (by kernel_rfl))
 f243:=Tryz.func171.trans (congrArg some (by kernel_rfl))
 f246:=Tryz.func212.trans (congrArg some (by kernel_rfl))
 f283:=Tryz.func234.trans (congrArg some (by kernel_rfl))
 f284:=Tryz.func235.trans (congrArg some (by kernel_rfl))
 f285:=Tryz.func236.trans (congrArg some (by kernel_rfl))
 f286:=Tryz.func237.trans (congrArg some (by kernel_rfl))
 f317:=Tryz.func259.trans (congrArg some (by kernel_rfl))
 f318:=Tryz.func260.trans (congrArg some (by kernel_rfl))
 f319:=Tryz.func261.trans (congrArg some (by kernel_rfl))
 f320:=Tryz.func262.trans (congrArg some (by kernel_rfl))
 f337:=Tryz.func279.trans (congrArg some (by kernel_rfl))
 f338:=Tryz.func280.trans (congrArg some (by kernel_rfl))
 t0:=Tryz.underlying0
 a0:=Tryz.isAgg0
 z0:=Tryz.sizeOf0
 v0:=Tryz.zeroValue0
 t2:=Tryz.underlying2
 a2:=Tryz.isAgg2
 z2:=Tryz.sizeOf2
 v2:=Tryz.zeroValue2
 t3:=Tryz.underlying3
 a3:=Tryz.isAgg3
 z3:=Tryz.sizeOf3
 v3:=Tryz.zeroValue3
 t4:=Tryz.underlying4
 a4:=Tryz.isAgg4
 z4:=Tryz.sizeOf4
 v4:=Tryz.zeroValue4
 t5:=Tryz.underlying5
 a5:=Tryz.isAgg5
 z5:=Tryz.sizeOf5
 v5:=Tryz.zeroValue5
 t9:=Tryz.underlying9
 a9:=Tryz.isAgg9
 z9:=Tryz.sizeOf9
 v9:=Tryz.zeroValue9
 t20:=Tryz.underlying20
 a20:=Tryz.isAgg20
 z20:=Tryz.sizeOf20
 v20:=Tryz.zeroValue20
 t37:=Tryz.underlying94
 a37:=Tryz.isAgg94
 z37:=Tryz.sizeOf94
 v37:=Tryz.zeroValue94
 t46:=Tryz.underlying192
 a46:=Tryz.isAgg192
 z46:=Tryz.sizeOf192
 v46:=Tryz.zeroValue192
 t51:=Tryz.underlying228
 a51:=Tryz.isAgg228
 z51:=Tryz.sizeOf228
 v51:=Tryz.zeroValue228
 t53:=Tryz.underlying230
 a53:=Tryz.isAgg230
 z53:=Tryz.sizeOf230
 v53:=Tryz.zeroValue230
 t171:=Tryz.underlying263
 a171:=Tryz.isAgg263
 z171:=Tryz.sizeOf263
 v171:=Tryz.zeroValue263
 t173:=Tryz.underlying265
 a173:=Tryz.isAgg265
 z173:=Tryz.sizeOf265
 v173:=Tryz.zeroValue265
 t212:=Tryz.underlying284
 a212:=Tryz.isAgg284
 z212:=Tryz.sizeOf284
 v212:=Tryz.zeroValue284
 t213:=Tryz.underlying285
 a213:=Tryz.isAgg285
 z213:=Tryz.sizeOf285
 t232:=Tryz.underlying307
 a232:=Tryz.isAgg307
 z232:=Tryz.sizeOf307
 v232:=Tryz.zeroValue307
 t233:=Tryz.underlying308
 a233:=Tryz.isAgg308
 z233:=Tryz.sizeOf308
 v233:=Tryz.zeroValue308
 g17:=by kernel_rfl
 g18:=by kernel_rfl
 g19:=by kernel_rfl
 i0:=by kernel_rfl
 i2:=by kernel_rfl
 i3:=by kernel_rfl
 i4:=by kernel_rfl
 i5:=by kernel_rfl
 i9:=by kernel_rfl
 i20:=by kernel_rfl
 i37:=by kernel_rfl
 i46:=by kernel_rfl
 i51:=by kernel_rfl
 i53:=by kernel_rfl
 i171:=by kernel_rfl
 i173:=by kernel_rfl
 i212:=by kernel_rfl
 i232:=by kernel_rfl
 i233:=by kernel_rfl
 m17:=by kernel_rfl
 m18:=by kernel_rfl
 m19:=by kernel_rfl }
def layAt_ren:Go.Shelf.Ren:=⟨fun | 172=>185 | 244=>218 | 245=>219 | 247=>251 | 279=>252 | 280=>253 | 281=>254 | 282=>255 | 287=>267 | 316=>268 | 171=>119 | 205=>269 | 321=>282 | 322=>283 | 243=>171 | 246=>212 | 283=>234 | 284=>235 | 285=>236 | 286=>237 | 129=>201 | 317=>259 | 318=>260 | 319=>261 | 320=>262 | 337=>279 | 338=>280 | n=>n,fun | 9=>9 | 3=>3 | 75=>98 | 76=>99 | 4=>4 | 5=>5 | 167=>273 | 37=>94 | 0=>0 | 85=>274 | 2=>2 | 168=>276 | 53=>230 | 175=>290 | 46=>192 | 210=>293 | 127=>165 | 145=>304 | 143=>302 | 21=>21 | 171=>263 | 173=>265 | 212=>284 | 51=>228 | 20=>20 | 213=>285 | 232=>307 | 233=>308 | 80=>104 | n=>n,fun | 15=>2 | 16=>3 | 17=>1 | 18=>4 | 19=>5 | n=>n⟩
theorem layAt:Go.Proofs.LaysC.n172 Tryz.prog layAt_ren:={
 mixed:=by kernel_rfl
 f129:=Tryz.func201.trans (congrArg some (by kernel_rfl))
 f171:=Tryz.func119.trans (congrArg some (by kernel_rfl))
 f172:=Tryz.func185.trans (congrArg some (by kernel_rfl))
 f205:=Tryz.func269.trans (congrArg some (by kernel_rfl))
 f243:=Tryz.func171.trans (congrArg some (by kernel_rfl))
 f244:=Tryz.func218.trans (congrArg some (by kernel_rfl))
 f245:=Tryz.func219.trans (congrArg some (by kernel_rfl))
 f246:=Tryz.func212.trans (congrArg some (by kernel_rfl))
 f247:=Tryz.func251.trans (congrArg some (by kernel_rfl))
 f279:=Tryz.func252.trans (congrArg some (by kernel_rfl))
 f280:=Tryz.func253.trans (congrArg some (by kernel_rfl))
 f281:=Tryz.func254.trans (congrArg some (by kernel_rfl))
 f282:=Tryz.func255.trans (congrArg some (by kernel_rfl))
 f283:=Tryz.func234.trans (congrArg some (by kernel_rfl))
 f284:=Tryz.func235.trans (congrArg some (by kernel_rfl))
 f285:=Tryz.func236.trans (congrArg some (by kernel_rfl))
 f286:=Tryz.func237.trans (congrArg some (by kernel_rfl))
 f287:=Tryz.func267.trans (congrArg some (by kernel_rfl))
 f316:=Tryz.func268.trans (congrArg some (by kernel_rfl))
 f317:=Tryz.func259.trans (congrArg some (by kernel_rfl))
 f318:=Tryz.func260.trans (congrArg some (by kernel_rfl))
 f319:=Tryz.func261.trans (congrArg some (by kernel_rfl))
 f320:=Tryz.func262.trans (congrArg some (by kernel_rfl))
 f321:=Tryz.func282.trans (congrArg some (by kernel_rfl))
 f322:=Tryz.func283.trans (congrArg some (by kernel_rfl))
 f337:=Tryz.func279.trans (congrArg some (by kernel_rfl))
 f338:=Tryz.func280.trans (congrArg some (by kernel_rfl))
 t0:=Tryz.underlying0
 a0:=Tryz.isAgg0
 z0:=Tryz.sizeOf0
 v0:=Tryz.zeroValue0
 t2:=Tryz.underlying2
 a2:=Tryz.isAgg2
 z2:=Tryz.sizeOf2
 v2:=Tryz.zeroValue2
 t3:=Tryz.underlying3
 a3:=Tryz.isAgg3
 z3:=Tryz.sizeOf3
 v3:=Tryz.zeroValue3
 t4:=Tryz.underlying4
 a4:=Tryz.isAgg4
 z4:=Tryz.sizeOf4
 v4:=Tryz.zeroValue4
 t5:=Tryz.underlying5
 a5:=Tryz.isAgg5
 z5:=Tryz.sizeOf5
 v5:=Tryz.zeroValue5
 t9:=Tryz.underlying9
 a9:=Tryz.isAgg9
 z9:=Tryz.sizeOf9
 v9:=Tryz.zeroValue9
 t20:=Tryz.underlying20
 a20:=Tryz.isAgg20
 z20:=Tryz.sizeOf20
 v20:=Tryz.zeroValue20
 t21:=Tryz.underlying21
 a21:=Tryz.isAgg21
 z21:=Tryz.sizeOf21
 v21:=Tryz.zeroValue21
 t37:=Tryz.underlying94
 a37:=Tryz.isAgg94
 z37:=Tryz.sizeOf94
 v37:=Tryz.zeroValue94
 t46:=Tryz.underlying192
 a46:=Tryz.isAgg192
 z46:=Tryz.sizeOf192
 v46:=Tryz.zeroValue192
 t51:=Tryz.underlying228
 a51:=Tryz.isAgg228
 z51:=Tryz.sizeOf228
 v51:=Tryz.zeroValue228
 t53:=Tryz.underlying230
 a53:=Tryz.isAgg230
 z53:=Tryz.sizeOf230
 v53:=Tryz.zeroValue230
 t75:=Tryz.underlying98
 a75:=Tryz.isAgg98
 z75:=Tryz.sizeOf98
 v75:=Tryz.zeroValue98
 t76:=Tryz.underlying99
 a76:=Tryz.isAgg99
 z76:=Tryz.sizeOf99
 v76:=Tryz.zeroValue99
 t85:=Tryz.underlying274
 a85:=Tryz.isAgg274
 z85:=Tryz.sizeOf274
 v85:=Tryz.zeroValue274
 t127:=Tryz.underlying165
 a127:=Tryz.isAgg165
 z127:=Tryz.sizeOf165
 v127:=Tryz.zeroValue165
 t143:=Tryz.underlying302
 a143:=Tryz.isAgg302
 z143:=Tryz.sizeOf302
 v143:=Tryz.zeroValue302
 t145:=Tryz.underlying304
 a145:=Tryz.isAgg304
 z145:=Tryz.sizeOf304
 v145:=Tryz.zeroValue304
 t167:=Tryz.underlying273
 a167:=Tryz.isAgg273
 z167:=Tryz.sizeOf273
 v167:=Tryz.zeroValue273
 t168:=Tryz.underlying276
 a168:=Tryz.isAgg276
 z168:=Tryz.sizeOf276
 v168:=Tryz.zeroValue276
 t171:=Tryz.underlying263
 a171:=Tryz.isAgg263
 z171:=Tryz.sizeOf263
 v171:=Tryz.zeroValue263
 t173:=Tryz.underlying265
 a173:=Tryz.isAgg265
 z173:=Tryz.sizeOf265
 v173:=Tryz.zeroValue265
 t175:=Tryz.underlying290
 a175:=Tryz.isAgg290
 z175:=Tryz.sizeOf290
 v175:=Tryz.zeroValue290
 t210:=Tryz.underlying293
 a210:=Tryz.isAgg293
 z210:=Tryz.sizeOf293
 v210:=Tryz.zeroValue293
 t212:=Tryz.underlying284
 a212:=Tryz.isAgg284
 z212:=Tryz.sizeOf284
 v212:=Tryz.zeroValue284
 t213:=Tryz.underlying285
 a213:=Tryz.isAgg285
 z213:=Tryz.sizeOf285
 t232:=Tryz.underlying307
 a232:=Tryz.isAgg307
 z232:=Tryz.sizeOf307
 v232:=Tryz.zeroValue307
 t233:=Tryz.underlying308
 a233:=Tryz.isAgg308
 z233:=Tryz.sizeOf308
 v233:=Tryz.zeroValue308
 g15:=by kernel_rfl
 g16:=by kernel_rfl
 g17:=by kernel_rfl
 g18:=by kernel_rfl
 g19:=by kernel_rfl
 t80:=Tryz.underlying104
 a80:=Tryz.isAgg104
 z80:=Tryz.sizeOf104
 v80:=Tryz.zeroValue104
 i0:=by kernel_rfl
 i2:=by kernel_rfl
 i3:=by kernel_rfl
 i4:=by kernel_rfl
 i5:=by kernel_rfl
 i9:=by kernel_rfl
 i20:=by kernel_rfl
 i21:=by kernel_rfl
 i37:=by kernel_rfl
 i46:=by kernel_rfl
 i51:=by kernel_rfl
 i53:=by kernel_rfl
 i75:=by kernel_rfl
 i76:=by kernel_rfl
 i80:=by kernel_rfl
 i85:=by kernel_rfl
 i127:=by kernel_rfl
 i143:=by kernel_rfl
 i145:=by kernel_rfl
 i167:=by kernel_rfl
 i168:=by kernel_rfl
 i171:=by kernel_rfl
 i173:=by kernel_rfl
 i175:=by kernel_rfl
 i210:=by kernel_rfl
 i212:=by kernel_rfl
 i232:=by kernel_rfl
 i233:=by kernel_rfl
 m15:=by kernel_rfl
 m16:=by kernel_rfl
 m17:=by kernel_rfl
 m18:=by kernel_rfl
 m19:=by kernel_rfl
 c0:=by kernel_rfl
 c2:=by kernel_rfl
 c3:=by kernel_rfl
 c4:=by kernel_rfl
 c5:=by kernel_rfl
 c9:=by kernel_rfl
 c20:=by kernel_rfl
 c21:=by kernel_rfl
 c37:=by kernel_rfl
 c46:=by kernel_rfl
 c51:=by kernel_rfl
 c53:=by kernel_rfl
 c75:=by kernel_rfl
 c76:=by kernel_rfl
 c80:=by kernel_rfl
 c85:=by kernel_rfl
 c127:=by kernel_rfl
 c143:=by kernel_rfl
 c145:=by kernel_rfl
 c167:=by kernel_rfl
 c168:=by kernel_rfl
 c171:=by kernel_rfl
 c173:=by kernel_rfl
 c175:=by kernel_rfl
 c210:=by kernel_rfl
 c212:=by kernel_rfl
 c213:=by kernel_rfl
 c232:=by kernel_rfl
 c233:=by kernel_rfl }
end Go.Proofs.YtplebjehcgcdeaaGreatDoor
namespace Go.Proofs.YtplebjehcgcdeaaGreatDoor.Bm
open Go Go.RowKit
structure GlobD (E:Env):Prop where
 prog:E.P=Tryz.prog
 dm:E.dm=false
 mx:0∈E.gany
 tab:(1,(Lib.pow10Tab.map fun z=>Value.int .u64 z).toArray)∈E.tabs
 syn:∃ T v,E.glob 2=some (.iface T v)
 ran:∃ T v,E.glob 3=some (.iface T v)
variable {E:Env} (hE:GlobD E)
include hE
theorem noD {p:Prop} (q:E.dm=true):p:=by rw [hE.dm] at q;cases q
theorem err_cell {g:Nat} (hg:∃ T v,E.glob g=some (.iface T v)) {w:World} (h:GlobAt E w):∃ te pe,w.cell? ⟨g,0,none⟩=some (.iface te pe):=by
 have _:=hE
 obtain ⟨T,v,hv⟩:=hg
 obtain ⟨Φ,h1,h2⟩:=h.val g _ hv
 cases h1 with
 | cptr _ _ f hsp k1 k2 =>
  obtain ⟨_,e⟩:=k1 0 (.iface T v) rfl
  have r:=k2 0 (.iface T v) rfl
  generalize f 0=u at *
  cases r with
  | atom _ ha=>simp [Bm.atom] at ha
  | iface _ _ v' _=>exact ⟨T,v',h2 _ _ _ e⟩
theorem conIB:ScaCon E 183 ixbF where
 dfd:=by rw [hE.prog];exact ⟨_,Tryz.func183,rfl⟩
 atoms args r h:=by
  unfold ixbF at h
  split at h
  ·rfl
  ·cases h
 calls args r h w _:=by
  unfold ixbF at h
  split at h
  ·rename_i s c
   cases h
   rw [hE.prog]
   refine (Any.strings_IndexByte layIB s c w).mono ?_
   rintro e w' ⟨rfl,rfl⟩
   exact ⟨_,rfl,fun M=>.atom _ rfl,Below.refl _ _,noD hE⟩
  ·cases h
theorem conCo:ScaCon E 133 contF where
 dfd:=by rw [hE.prog];exact ⟨_,Tryz.func133,rfl⟩
 atoms args r h:=by
  unfold contF at h
  split at h
  ·rfl
  ·cases h
 calls args r h w hg:=by
  unfold contF at h
  split at h
  ·rename_i s c
   rw [Option.ite_none_right_eq_some] at h
   obtain ⟨hs,h⟩:=h
   cases h
   rw [hE.prog]
   obtain ⟨m,hm⟩:=hg.any 0 hE.mx
   refine (Any.strings_Contains layCo s c m w hs hm).mono ?_
   rintro e w' ⟨rfl,rfl⟩
   exact ⟨_,rfl,fun M=>.atom _ rfl,Below.refl _ _,noD hE⟩
  ·cases h
theorem conIt:ScaCon E 119 itoaF where
 dfd:=by rw [hE.prog];exact ⟨_,Tryz.func119,rfl⟩
 atoms args r h:=by
  unfold itoaF at h
  split at h
  ·rfl
  ·cases h
 calls args r h w hg:=by
  unfold itoaF at h
  split at h
  ·rename_i n
   rw [Option.ite_none_right_eq_some] at h
   obtain ⟨⟨h0,h1⟩,h⟩:=h
   cases h
   rw [hE.prog]
   obtain ⟨ty,fz,ht⟩:=hg.tab _ _ hE.tab
   have htab : Lib.TabIs Tryz.prog w "internal/strconv.uint64pow10" .u64 Lib.pow10Tab := by
    unfold Lib.TabIs World.var?
    have e : Tryz.prog.globalNamed "internal/strconv.uint64pow10" = some 1 := by kernel_rfl
    rw [e,Option.bind_some,ht]
   refine (Any.strconv_Itoa layIt n h0 h1 w htab).mono ?_
   rintro e w' ⟨rfl,k,os,rfl⟩
   rw [itoL_eq h0 h1]
   refine ⟨_,rfl,fun M=>.atom _ rfl,?_,?_⟩
   ·exact ⟨rfl,rfl,rfl,by simp [Go.Sort.grow,World.drewN],fun j hj=>by simp only [Go.Sort.grow,World.drewN];rw [Array.getElem?_append_left hj]⟩
   ·exact noD hE
  ·cases h
theorem conAt:ScaCon E 185 (atoiF 276) where
 dfd:=by rw [hE.prog];exact ⟨_,Tryz.func185,rfl⟩
 atoms args r h:=by
  unfold atoiF at h
  split at h
  ·rfl
  ·cases h
 calls args r h w hg:=by
  unfold atoiF at h
  split at h
  ·rename_i s
   rw [Option.ite_none_right_eq_some] at h
   obtain ⟨hs,h⟩:=h
   rw [hE.prog]
   have bad:∀ (z:Int) (N:Nat) (M:Mem),VRel M (.tuple ⟨[.int .i64 z,.iface 276 undef]⟩) (.tuple #[.int .i64 z,.iface 276 (.pointer (some ⟨N,0,none⟩))]):=fun z N M=>by
    refine .tuple _ _ rfl fun i u u' h1 h2=>?_
    match i,h1,h2 with
    | 0,h1,h2=>cases h1;cases h2;exact .atom _ rfl
    | 1,h1,h2=>cases h1;cases h2;exact .iface _ _ _ (.top _)
   split at h
   ·rename_i v hv
    cases h
    refine (Any.strconv_Atoi_ok layAt s (by omega) v hv w).mono ?_
    rintro e w' ⟨rfl,hw⟩
    refine ⟨_,rfl,fun M=>?_,?_⟩
    ·refine .tuple _ _ rfl fun i u u' h1 h2=>?_
     match i,h1,h2 with
     | 0,h1,h2=>cases h1;cases h2;exact .atom _ rfl
     | 1,h1,h2=>cases h1;cases h2;exact .atom _ rfl
    ·rcases hw with rfl | ⟨t,rfl⟩
     ·exact ⟨Below.refl _ _,noD hE⟩
     ·exact ⟨Lib.bytesWorld_below ..,noD hE⟩
   ·rename_i hv
    cases h
    obtain ⟨te,pe,hc⟩:=err_cell hE hE.syn hg
    refine (Any.strconv_Atoi_syntax layAt s hs hv _ w hc (.inr ⟨_,_,rfl⟩)).mono ?_
    rintro e w' ⟨N,rfl,_,_,hb⟩
    exact ⟨_,rfl,fun M=>bad _ N M,hb,noD hE⟩
   ·rename_i hv
    cases h
    obtain ⟨te,pe,hc⟩:=err_cell hE hE.ran hg
    refine (Any.strconv_Atoi_range layAt s hs hv _ w hc (.inr ⟨_,_,rfl⟩)).mono ?_
    rintro e w' ⟨N,rfl,_,_,hb⟩
    exact ⟨_,rfl,fun M=>bad _ N M,hb,noD hE⟩
  ·cases h
end Go.Proofs.YtplebjehcgcdeaaGreatDoor.Bm
namespace Go.Proofs.YtplebjehcgcdeaaGreatDoor.Bm
open Go Go.RowKit
theorem okE:OkProg E.P:=okProg_of (by kernel_rfl) (by kernel_rfl)
theorem laidE:laidOutB E.P=true:=by kernel_rfl
theorem mapsE:mapsRowed E.P=true:=by kernel_rfl
theorem u4:E.P.underlying 4=some .bool:=by kernel_rfl
theorem globE:GlobD E where
 prog:=rfl
 dm:=rfl
 mx:=List.mem_singleton.2 rfl
 tab:=List.mem_singleton.2 rfl
 syn:=⟨_,_,rfl⟩
 ran:=⟨_,_,rfl⟩
structure OrcAt (E:Env) (f:FuncId) (g:List Value→Heap→Nat→Res):Prop where
 dfd:∃ fn,E.P.funcs[f]?=some fn∧fn.body.isSome=true
 snd:∀ args h lo v h',g args h lo=some (v,h')→lo≤h.length→∀ B M w (args':Array Value),HSim E B M h w→VRels M args args'.toList →
  Calls E.P f args' w fun e w'=>∃ v',e=.returned v'∧Out E B lo M h w v h' v' w'
 keep:∀ args h lo v h',g args h lo=some (v,h')→lo≤h.length→Keep lo h h'
theorem OrcAt.sca {f:FuncId} {F:List Value→Option Value} (hC:ScaCon E f F):OrcAt E f (scaG F) :=
 ⟨hC.dfd,fun _args _h _lo _v _h' hr _hlo _B _M _w args' hs hv=>sca_sound hC hr args' hs hv,fun _args _h _lo _v _h' hr _hlo=>sca_keep hr⟩
theorem OrcAt.clo {f:FuncId} (hC:CloCon E.P f):OrcAt E f (cloG E0 f) :=
 ⟨hC.dfd,fun _args _h _lo _v _h' hr hlo _B _M _w args' hs hv=>cloG_sound (E₀:=E0) rfl okE rfl rfl rfl rfl (fun _=>rfl) hC hr hlo args' hs hv,fun _args _h _lo _v _h' hr hlo=>cloG_keep (fun _=>rfl) hr hlo⟩
theorem OrcAt.sort {f:FuncId} {F:List Int→List Int} {N} (hC:SortCon E.P f F N):OrcAt E f (inG F N) :=
 ⟨hC.dfd,fun _args _h _lo _v _h' hr hlo _B _M _w args' hs hv=>in_sound hC hr hlo args' hs hv,fun _args _h _lo _v _h' hr _hlo=>inG_keep hr⟩
theorem OrcAt.cell {f q:FuncId} {m:Nat} {F} (hC:CellCon E.P f q m F):OrcAt E f (inC q m F) :=
 ⟨hC.dfd,fun _args _h _lo _v _h' hr hlo _B _M _w args' hs hv=>inC_sound hC hr hlo args' hs hv,fun _args _h _lo _v _h' hr _hlo=>inC_keep hr⟩
theorem orcE:OrcSound E:=by
 have key:∀ g k,E.orc g=some k→OrcAt E g k:=fun g k h=>by
  rw [E_orc] at h
  by_cases h0:g=52
  ·subst h0;simp at h;subst h
   exact ⟨conBld.std,fun args h lo v h' hr hlo B M w args' hs hv=>bst_sound (E:=E) conBld hr args' hs hv,fun args h lo v h' hr hlo=>bst_keep hr⟩
  by_cases h1:g=95
  ·subst h1;simp at h;subst h
   exact ⟨conPrb.dfd,fun args h lo v h' hr hlo B M w args' hs hv=>inP_sound (E:=E) (E₀:=E0) okE rfl rfl rfl rfl (fun _=>rfl) rfl rfl conPrb runs0 hr hlo args' hs hv,fun args h lo v h' hr hlo=>inP_keep hr⟩
  by_cases h2:g=116
  ·subst h2;simp at h;subst h
   exact ⟨conBld.ccd,fun args h lo v h' hr hlo B M w args' hs hv=>cpc_sound (E:=E) conBld hr args' hs hv,fun args h lo v h' hr hlo=>cpc_keep hr⟩
  by_cases h3:g=119
  ·subst h3;simp at h;subst h;exact .sca (conIt globE)
  by_cases h4:g=128
  ·subst h4;simp at h;subst h;exact .clo conCloVol
  by_cases h5:g=129
  ·subst h5;simp at h;subst h;exact .clo conCloEnt
  by_cases h6:g=133
  ·subst h6;simp at h;subst h;exact .sca (conCo globE)
  by_cases h7:g=172
  ·subst h7;simp at h;subst h;exact .sort conSort
  by_cases h8:g=173
  ·subst h8;simp at h;subst h;exact .sort conComp
  by_cases h9:g=183
  ·subst h9;simp at h;subst h;exact .sca (conIB globE)
  by_cases h10:g=185
  ·subst h10;simp at h;subst h;exact .sca (conAt globE)
  by_cases h11:g=229
  ·subst h11;simp at h;subst h;exact .cell conSpan
  simp only [h0,h1,h2,h3,h4,h5,h6,h7,h8,h9,h10,h11,if_false] at h;cases h
 exact ⟨fun g k hg args h lo r _=>(key g k hg).dfd,fun g k hg args h lo v h' hr hlo B M w args' hs hv=>(key g k hg).snd _ _ _ _ _ hr hlo _ _ _ _ hs hv,fun g k hg args h lo v h' hr hlo=>(key g k hg).keep _ _ _ _ _ hr hlo⟩
end Go.Proofs.YtplebjehcgcdeaaGreatDoor.Bm
namespace Go.Proofs.YtplebjehcgcdeaaGreatDoor
open Go Go.ChangeShapes Go.WideShapes Go.ChangeAt Go.WideMaps Go.WideElems Go.RowKit
def laid5 : List (String × DataW Unit) := [("math/bits.deBruijn32tab", Rows.laid_math_bits_deBruijn32tab), ("math/bits.deBruijn64tab", Rows.laid_math_bits_deBruijn64tab), ("internal/strconv.uint64pow10", Rows.laid_internal_strconv_uint64pow10), ("strconv.ErrRange", Rows.laid_strconv_ErrRange), ("strconv.ErrSyntax", Rows.laid_strconv_ErrSyntax)]
theorem isIface {o:Option TypeDesc} (h:(match o with | some (.interface _)=>true | _=>false)=true):∃ ms,o=some (.interface ms):=by
 split at h
 ·exact ⟨_,rfl⟩
 ·cases h
theorem uErr:∃ ms,Tryz.prog.underlying 98=some (.interface ms):=isIface (by kernel_rfl)
theorem star : "*" ++ "errors.errorString" = "*errors.errorString" := by decide
set_option maxRecDepth 100000 in
theorem rowErr (u : TypeId) (h : Tryz.prog.typeName? 3 u = some "*errors.errorString") : u = 302 :=
 typeName_ptr_named (nm := "errors.errorString") (by rw [star]; kernel_rfl) (by kernel_rfl) (by decide) u (by rw [star]; exact h)
theorem uPtr:Tryz.prog.underlying 302=some (.pointer 304):=by kernel_rfl
theorem uStr9:Tryz.prog.underlying 9=some .string:=by kernel_rfl
theorem oneField {o:Option TypeDesc} {ty:TypeId} (h:(o.map fun d=>match d with | .struct fs=>fs.toList.map fun f=>(f.type,f.offset) | _=>[])=some [(ty,0)]):∃ f:Field,o=some (.struct #[f])∧f.type=ty∧f.offset=0:=by
 obtain ⟨d,rfl,h2⟩:=Option.map_eq_some_iff.1 h
 split at h2
 ·rename_i fs
  obtain ⟨fs⟩:=fs
  rcases fs with _ | ⟨f,_ | ⟨g,fs⟩⟩
  ·cases h2
  ·simp at h2
   exact ⟨f,rfl,h2.1,h2.2⟩
  ·simp at h2
 ·cases h2
theorem uEs:∃ f:Field,Tryz.prog.underlying 304=some (.struct #[f])∧f.type=9∧f.offset=0:=oneField (by kernel_rfl)
theorem nStr:Tryz.prog.cellsOf 304=1:=by kernel_rfl
theorem nStr9:Tryz.prog.cellsOf 9=1:=by kernel_rfl
theorem g2 : Tryz.prog.globalNamed "strconv.ErrSyntax" = some 2 := by kernel_rfl
theorem g3 : Tryz.prog.globalNamed "strconv.ErrRange" = some 3 := by kernel_rfl
theorem g1 : Tryz.prog.globalNamed "internal/strconv.uint64pow10" = some 1 := by kernel_rfl
theorem t2:(Tryz.prog.globals[2]?).map (·.type)=some 98:=by kernel_rfl
theorem t3:(Tryz.prog.globals[3]?).map (·.type)=some 98:=by kernel_rfl
theorem t1:(Tryz.prog.globals[1]?).map (·.type)=some 284:=by kernel_rfl
theorem errs_laid {W:World} (h:laidMetH Tryz.prog laid5 W):∃ (a0 a1:Addr) (s0 s1:ByteArray),W.cell? ⟨3,0,none⟩=some (.iface 302 (.pointer (some a0)))∧W.cell? ⟨2,0,none⟩=some (.iface 302 (.pointer (some a1))) ∧
  W.cell? a0=some (.string s0)∧s0.data.toList=[118,97,108,117,101,32,111,117,116,32,111,102,32,114,97,110,103,101]∧W.cell? a1=some (.string s1)∧s1.data.toList=[105,110,118,97,108,105,100,32,115,121,110,116,97,120]:=by
 have h := laidMetH.filter (fun x => x.1 == "strconv.ErrRange" || x.1 == "strconv.ErrSyntax") h
 have e : laid5.filter (fun x => x.1 == "strconv.ErrRange" || x.1 == "strconv.ErrSyntax") = [("strconv.ErrRange", Rows.laid_strconv_ErrRange), ("strconv.ErrSyntax", Rows.laid_strconv_ErrSyntax)] := by kernel_rfl
 rw [e,MakeChecks.laidMetH_plain _ _ _ (by kernel_rfl)] at h
 obtain ⟨ms,hi⟩:=uErr
 obtain ⟨f,uf,ft,fo⟩:=uEs
 obtain ⟨a0,a1,s0,s1,c0,c1,t0',t1',v0,v1,k0,l0,_,k1,l1,_⟩:=laid_sentinels2 h g3 t3 g2 t2 hi rowErr uPtr uf ft fo uStr9 nStr nStr9
 exact ⟨a0,a1,s0,s1,by simpa using World.var?_cell g3 v0 0,by simpa using World.var?_cell g2 v1 0,k0,l0,k1,l1⟩
theorem u284:Tryz.prog.underlying 284=some (.array 20 230):=by kernel_rfl
theorem uU64:Tryz.prog.underlying 230=some (.int .u64):=by kernel_rfl
theorem nU64:Tryz.prog.cellsOf 230=1:=by kernel_rfl
theorem n284:Tryz.prog.cellsOf 284=20:=by kernel_rfl
theorem nums_open {P:Program} {W:World} {t e:TypeId} {k:IntKind} {n fuel:Nat} {cs:List Value} {zs:List Int} {p:List MemPlace} (ut:P.underlying t=some (.array n e)) (ue:P.underlying e=some (.int k)) (ne:P.cellsOf e=1) (nt:P.cellsOf t=n)
  (h:DataW.trod (fun _=>()) P W 0 (fun _=>true) false fuel t cs=some (.agg (zs.map fun z=>.lit (.int k z)),p)):cs=zs.map fun z=>.int k z:=by
 obtain ⟨xs,m1,rfl,hx1,hlen,hn3,hel⟩:=DataW.trod_array ut h
 have hx3:=DataW.agg.inj (Prod.mk.inj hx1).1
 have hz:zs.length=n:=by
  have:=congrArg List.length hx3
  simpa [hn3] using this
 refine List.ext_getElem (by rw [hlen,nt,List.length_map,hz]) fun i h1 h2=>?_
 have hi:i<n:=by rw [hlen,nt] at h1;exact h1
 have h3:=hel i hi
 rw [ne,Nat.mul_one,List.getElem?_eq_getElem (show i<xs.length by omega)] at h3
 obtain ⟨z,e1,e2,_⟩:=DataW.trod_int ue h3
 have h4:=congrArg (fun l=>l[i]?) hx3
 simp only [List.getElem?_map,List.getElem?_eq_getElem (show i<xs.length by omega),List.getElem?_eq_getElem (show i<zs.length by omega),Option.map_some,e2,Option.some.injEq,DataW.lit.injEq,Lit.int.injEq,true_and] at h4
 have h5:cs[i]=.int k z:=by
  have:=congrArg (fun l=>l[0]?) e1
  simpa [List.getElem?_take,List.getElem?_drop,List.getElem?_eq_getElem h1] using this
 rw [h5,List.getElem_map,h4]
theorem tab_laid {W:World} (h:laidMetH Tryz.prog laid5 W):∃ ty fz,W.heap[1]?=some (.cells (Lib.pow10Tab.map fun z=>Value.int .u64 z).toArray ty fz):=by
 have h := laidMetH.filter (fun x => x.1 == "internal/strconv.uint64pow10") h
 have e : laid5.filter (fun x => x.1 == "internal/strconv.uint64pow10") = [("internal/strconv.uint64pow10", Rows.laid_internal_strconv_uint64pow10)] := by kernel_rfl
 rw [e,MakeChecks.laidMetH_plain _ _ _ (by kernel_rfl)] at h
 obtain ⟨ps,⟨g',t',cs,f',p',q',hg',ht',hv,hd,_⟩,_⟩:=h
 obtain rfl:=Option.some.inj (g1.symm.trans hg')
 obtain rfl:=Option.some.inj (t1.symm.trans ht')
 have hc:=nums_open u284 uU64 nU64 n284 (zs:=Lib.pow10Tab) (hd.trans (congrArg some (congrArg (·,p') (by kernel_rfl))))
 rw [← hc]
 unfold World.var? at hv
 rw [hg',Option.bind_some] at hv
 split at hv
 ·rename_i ty fz hh
  cases hv
  exact ⟨ty,fz,hh⟩
 ·cases hv
theorem glob_met {W:World} (h:laidMetH Tryz.prog laid5 W):∀ g v,Bm.E.glob g=some v→Bm.VRel ⟨fun _=>none,Bm.cellsW W⟩ (Bm.cptr v) (.pointer (some ⟨g,0,none⟩)):=by
 intro g v hv
 obtain ⟨a0,a1,s0,s1,h3,h2,k0,l0,k1,l1⟩:=errs_laid h
 have key:∀ (g:Nat) (a:Addr) (s:ByteArray) (l:List UInt8),W.cell? ⟨g,0,none⟩=some (.iface 302 (.pointer (some a)))→W.cell? a=some (.string s)→s.data.toList=l →
   Bm.VRel ⟨fun _=>none,Bm.cellsW W⟩ (Bm.cptr (Bm.errV 302 l)) (.pointer (some ⟨g,0,none⟩)):=fun g a s l hg ha hl=>by
  have hs:a.spot=none:=by
   cases hsp:a.spot with
   | none=>rfl
   | some k =>
    unfold World.cell? at ha
    rw [hsp] at ha
    split at ha <;> simp at ha
  have es:s=⟨⟨l⟩⟩:=by obtain ⟨⟨d⟩⟩:=s;exact congrArg (fun x=>ByteArray.mk (Array.mk x)) hl
  subst es
  obtain ⟨ab,ao,asp⟩:=a
  simp only at hs
  subst hs
  refine .tree _ _ _ _ (.cptr _ ⟨g,0,none⟩ (fun _=>.iface 302 (.pointer (some ⟨ab,ao,none⟩))) rfl (fun j u hu=>?_) fun j u hu=>?_)
  ·have hu:([Bm.errV 302 l]:List Value)[j]?=some u:=hu
   match j,hu with
   | 0,hu =>
    cases hu
    exact ⟨rfl,hg⟩
  ·have hu:([Bm.errV 302 l]:List Value)[j]?=some u:=hu
   match j,hu with
   | 0,hu =>
    cases hu
    refine .iface _ _ _ (.cptr _ ⟨ab,ao,none⟩ (fun _=>.string ⟨⟨l⟩⟩) rfl (fun j u hu=>?_) fun j u hu=>?_)
    ·have hu:([Value.string ⟨⟨l⟩⟩]:List Value)[j]?=some u:=hu
     match j,hu with
     | 0,hu =>
      cases hu
      exact ⟨rfl,ha⟩
    ·have hu:([Value.string ⟨⟨l⟩⟩]:List Value)[j]?=some u:=hu
     match j,hu with
     | 0,hu =>
      cases hu
      exact .atom _ rfl
 have hv:Bm.globS 302 g=some v:=hv
 unfold Bm.globS at hv
 split at hv
 ·rename_i e
  subst e
  cases hv
  exact key 2 a1 s1 _ h2 k1 l1
 ·split at hv
  ·rename_i e
   subst e
   cases hv
   exact key 3 a0 s0 _ h3 k0 l0
  ·cases hv
theorem tabs_met {W:World} (h:laidMetH Tryz.prog laid5 W):∀ g cs,(g,cs)∈Bm.E.tabs→∃ ty fz,W.heap[g]?=some (.cells cs ty fz):=by
 intro g cs hg
 have hg:(g,cs)∈Bm.tabsS:=hg
 rw [Bm.tabsS,List.mem_singleton] at hg
 cases hg
 exact tab_laid h
theorem any_met {W:World} (h:W.ShapedOpen Tryz.prog):∀ g∈Bm.E.gany,∃ m,W.cell? ⟨g,0,none⟩=some (.int .i64 m):=by
 intro g hg
 have hg:g∈[0]:=hg
 rw [List.mem_singleton] at hg
 subst hg
 exact cell_of_shapedOpen_int (P:=Tryz.prog) (g:=0) (t:=3) (zero:=#[.int .i64 0]) h (of_decide_eq_true (by kernel_rfl)) (by kernel_rfl) rfl (by kernel_rfl) (by kernel_rfl) (by kernel_rfl)
theorem returns_shaped {H:Type} {enc:TypeId × Value→H} {a:Assume} {C:Checked} {os:Os} {f:FuncId} {fn:Func} {s:ChangeSpec} {conds:List PathCond} {apart fresh handsOn again:Bool} {X:World→Array Value→Prop}
  (hX:∀ (w w':World) (args:Array Value),w.heap=w'.heap→X w args→X w' args)
  (own:ownKnob C.prog.godebug=none) (started:os.Started) (noInit:C.prog.inits.idxOf? f=none) (hfn:C.prog.funcs[f]?=some fn)
  (witness:∃ (w:World) (tape:Tape) (i:Input),w.os=os∧(w.forCall tape i).Shaped C.prog∧i.vars=[]∧Input.okWide C.prog (w.forCall tape i) .any w.heap.size f i ∧
   ((s.pre enc C.prog fn conds apart (w.forCall tape i).memory i.args∧X (w.forCall tape i).memory i.args)∧sizedMet enc C.prog fn (OpenSpec.ofChange s) apart (w.forCall tape i).memory i.args)∧a.holds C.prog (lone (Frame.enter C.prog f i.args .normal) [] (w.forCall tape i)))
  (contract:∀ (W:World) (base:Nat) (args:Array Value) (ds gs:List (DataW H)) (before:List MemPlace),
   (∀ (j:Nat) t v,fn.params[j]?=some t→args[j]?=some v→Value.okWide C.prog W .any base t v) →
   DataW.Whole enc C.prog fn.params.toList s.vars apart W args.toList ds gs before →
   (DataW.weightsEach C.prog (fn.params.toList++s.plain.varTypes C.prog) (ds++gs)).all (·≤reachBytes)=true→X W args→W.ShapedOpen C.prog →
   Calls C.prog f args W fun e W'=>∃ v,e=.returned v∧s.post enc C.prog fn apart fresh handsOn again W args v W') :
  ReturnsInHanded a C os f .any (fun w args=>(s.pre enc C.prog fn conds apart w args∧X w args)∧sizedMet enc C.prog fn (OpenSpec.ofChange s) apart w args) (s.post enc C.prog fn apart fresh handsOn again):=by
 refine returnsInHanded_of_calls own started noInit witness ?_
 intro w tape i _ hsh _ hok hpre hholds
 obtain ⟨_,_,_,fn',hfn',_,_,_,_,hval⟩:=hok
 have e:fn'=fn:=Option.some.inj (hfn'.symm.trans hfn)
 subst e
 obtain ⟨⟨⟨ds,gs,before,hw,hc⟩,hx⟩,hz⟩:=hpre
 have hw':=DataW.Whole.of_heap (w':=w.forCall tape i) (by rfl) hw
 refine (contract (w.forCall tape i) w.heap.size i.args ds gs before hval hw' (hz.weights hw) (hX _ _ _ (by rfl) hx) hsh).mono fun e W' ⟨v,he,hp⟩=>?_
 subst he
 exact ChangeSpec.post_blind hp
theorem own:ownKnob Tryz.prog.godebug=none:=by kernel_rfl
theorem door_met (os:Os) (args:Array Value):laidMetH Tryz.prog laid5 ((World.doorLaid Tryz.prog 400 os).forCall (fun _ _=>0) ⟨#[],args,[]⟩).memory :=
 laidMetH_of_parts3 (fuel:=8) (laidMet_of_run' 8 (by kernel_rfl) (by kernel_rfl)) (by kernel_rfl) (by kernel_rfl)
end Go.Proofs.YtplebjehcgcdeaaGreatDoor
namespace Go.Proofs.YtplebjehcgcdeaaGreatDoor.Bm
open Go Go.RowKit
open Dw (Vol Ent Phs Drw)
def Lens (p:Phs):Prop:=p.vols.length≤1000000∧p.gives.length≤1000000
theorem phs_eq (a b:Phs):decide (a=b)=(decide (a.vols=b.vols) && decide (a.gives=b.gives)):=by
 obtain ⟨v,g⟩:=a
 obtain ⟨v',g'⟩:=b
 rw [Bool.eq_iff_iff]
 simp
theorem same1_pure (a b:Phs) (ha:Lens a) (hb:Lens b):pureCall E.P (L E) 81 [phR.val a,phR.val b]=some (.bool (decide (a=b))):=by
 have e1:=eqv_pure (x:=false) (y:=false) a.vols b.vols ha.1 hb.1
 have e2:=eqe_pure (x:=false) (y:=false) a.gives b.gives ha.2 hb.2
 have r1:∀ h,reify E.P 8 h (lst false (volR.vals a.vols))=some (lst false (volR.vals a.vols)):=fun h=>rfl
 have r2:∀ h,reify E.P 8 h (lst false (volR.vals b.vols))=some (lst false (volR.vals b.vols)):=fun h=>rfl
 have r3:∀ h,reify E.P 8 h (lst false (entR.vals a.gives))=some (lst false (entR.vals a.gives)):=fun h=>rfl
 have r4:∀ h,reify E.P 8 h (lst false (entR.vals b.gives))=some (lst false (entR.vals b.gives)):=fun h=>rfl
 have s1:∀ n,one (lst false (volR.vals a.vols))=true∧settled n (lst false (volR.vals a.vols))=settled n (lst false []):=fun n=>⟨rfl,by cases n <;> rfl⟩
 rw [pureCall_fn F81 rfl,ph_val,ph_val,phs_eq]
 have bx:∀ (u v:Value) X,aBox X tP (.agg ⟨[u,v]⟩)=some (.pointer (some ⟨X.length,0,none⟩),X++[.cells tP [u,v] 0]):=fun u v X=>rfl
 generalize lst false (volR.vals a.vols)=VA at *
 generalize lst false (volR.vals b.vols)=VB at *
 generalize lst false (entR.vals a.gives)=GA at *
 generalize lst false (entR.vals b.gives)=GB at *
 cases h1:decide (a.vols=b.vols) with
 | true =>
  rw [h1] at e1
  simp -implicitDefEqProofs [r81,p81,bx,r1,r2,r3,r4,ret0 m82,e1,ret0 m83,e2,-aBox_eq]
 | false =>
  rw [h1] at e1
  simp -implicitDefEqProofs [r81,p81,bx,r1,r2,ret0 m82,e1,-aBox_eq]
theorem eqf_pure {k m:Option Bool} (a b:List Phs) (hk:Rec.Ok k a) (hm:Rec.Ok m b) (ha:a.length≤1000000) (_hb:b.length≤1000000) (la:∀ p∈a,Lens p) (lb:∀ p∈b,Lens p) :
  pureCall E.P (L E) 80 [phR.o k a,phR.o m b,.func (.func 81) #[] #[]]=some (.bool (decide (a=b))):=by
 have na:∀ h,lenT .sl h (phR.o k a)=some (.int .i64 a.length):=fun h=>Rec.o_len hk
 have nb:∀ h,lenT .sl h (phR.o m b)=some (.int .i64 b.length):=fun h=>Rec.o_len hm
 have ia:=fun (i:Nat) (hi:i<a.length)=>Rec.o_index (R:=phR) (s:=2) (t:=tP) (kk:=.i64) rfl hk hi
 have ib:=fun (i:Nat) (hi:i<b.length)=>Rec.o_index (R:=phR) (s:=2) (t:=tP) (kk:=.i64) rfl hm hi
 have bA:∀ d n,below (d+1) n (phR.o k a)=true:=fun d n=>Rec.o_bel
 have bB:∀ d n,below (d+1) n (phR.o m b)=true:=fun d n=>Rec.o_bel
 rw [pureCall_fn F80 rfl]
 generalize phR.o k a=VA at *
 generalize phR.o m b=VB at *
 by_cases hl:a.length=b.length
 ·simp -implicitDefEqProofs [r80,p80,na,nb,hl]
  rw [LL_for (γ:=Unit) (a.zip b) () (fun i _=>[(17,.int .i64 (i:Int))]) (fun _ _=>[]) (fun _ rest _=>if rest.all (fun p=>decide (p.1=p.2)) then (.exit 0,[(17,undef)],[]) else (.ret,[(6,.bool false),(17,undef)],[])) (fun _ _=>True) (by rw [List.length_zip];omega) trivial]
  ·have hz:(a.zip b).all (fun p=>decide (p.1=p.2))=decide (a=b):=zip_all hl
   rw [hz]
   by_cases hab:a=b
   ·rw [decide_eq_true hab]
    simp -implicitDefEqProofs [k80_4]
   ·rw [decide_eq_false hab]
    simp -implicitDefEqProofs [k80_4]
  ·simp -implicitDefEqProofs [k80_4]
  ·rfl
  ·intro nx i c hi _
   have hi2:¬ ((i:Nat):Int)<(b.length:Int):=by rw [List.length_zip] at hi;omega
   simp -implicitDefEqProofs [r80_4,k80_4,hi2,trim_le]
  ·intro nx i p rest u hi hv hd hw _ ih
   have ih:=ih () trivial
   have hi1:i<a.length:=by rw [List.length_zip] at hi;omega
   have hi2:i<b.length:=by rw [List.length_zip] at hi;omega
   have hi3:((i:Nat):Int)<(b.length:Int):=by omega
   have xa:=ia i hi1
   have xb:=ib i hi2
   have hp:p=(a[i],b[i]):=by rw [← hv,List.getElem_zip]
   rw [hp]
   have sm:=same1_pure a[i] b[i] (la _ (List.getElem_mem hi1)) (lb _ (List.getElem_mem hi2))
   rw [List.all_cons]
   simp only
   generalize a[i]=u1 at *
   generalize b[i]=u2 at *
   rw [ph_val] at xa xb sm
   rw [ph_val] at sm
   have f1:∀ v w,fitsTT ⟨some true,some 2⟩ (.agg ⟨[lst false v,lst false w]⟩)=true:=fun v w=>rfl
   have f1a:=f1 (volR.vals u1.vols) (entR.vals u1.gives)
   have f1b:=f1 (volR.vals u2.vols) (entR.vals u2.gives)
   have g1:∀ v w h,reify E.P 8 h (.agg ⟨[lst false v,lst false w]⟩)=some (.agg ⟨[lst false v,lst false w]⟩):=fun v w h=>rfl
   have g1a:=g1 (volR.vals u1.vols) (entR.vals u1.gives)
   have g1b:=g1 (volR.vals u2.vols) (entR.vals u2.gives)
   have b1:∀ d n,below (d+1) n (lst false (volR.vals u1.vols))=true:=fun d n=>rfl
   have b2:∀ d n,below (d+1) n (lst false (volR.vals u2.vols))=true:=fun d n=>rfl
   have b3:∀ d n,below (d+1) n (lst false (entR.vals u1.gives))=true:=fun d n=>rfl
   have b4:∀ d n,below (d+1) n (lst false (entR.vals u2.gives))=true:=fun d n=>rfl
   clear f1 g1
   have st0:∀ v w,storeT (some 2) [.cells tP [.slice none 0 0,.slice none 0 0] 0] 0 (.agg ⟨[v,w]⟩) (.pointer (some ⟨0,0,none⟩))=some [.cells tP [v,w] 0]:=fun v w=>snoc_put (g:=[]) rfl rfl (by decide) (Nat.zero_le _)
   have st1:∀ A v w,storeT (some 2) [A,.cells tP [.slice none 0 0,.slice none 0 0] 0] 0 (.agg ⟨[v,w]⟩) (.pointer (some ⟨1,0,none⟩))=some [A,.cells tP [v,w] 0]:=fun A v w=>snoc_put (g:=[A]) rfl rfl (by decide) (Nat.zero_le _)
   have d0:∀ v w B,loadT ⟨some true,some 2⟩ [.cells tP [v,w] 0,B] (.pointer (some ⟨0,0,none⟩))=some (.agg ⟨[v,w]⟩):=fun v w B=>obj_all (n:=2) (t:=tP) rfl rfl
   have d1:∀ A v w,loadT ⟨some true,some 2⟩ [A,.cells tP [v,w] 0] (.pointer (some ⟨1,0,none⟩))=some (.agg ⟨[v,w]⟩):=fun A v w=>obj_all (h:=[A,.cells tP [v,w] 0]) (b:=1) (n:=2) (t:=tP) rfl rfl
   generalize lst false (volR.vals u1.vols)=V1 at *
   generalize lst false (volR.vals u2.vols)=V2 at *
   generalize lst false (entR.vals u1.gives)=G1 at *
   generalize lst false (entR.vals u2.gives)=G2 at *
   generalize hRA:rest.all (fun p=>decide (p.1=p.2))=RA at *
   by_cases hu:u1=u2
   ·rw [decide_eq_true hu] at sm
    rw [decide_eq_true hu,Bool.true_and]
    simp -implicitDefEqProofs [k80_4] at ih
    simp -implicitDefEqProofs [r80_4,k80_4,hi3,xa,xb,f1a,f1b,st0,st1,d0,d1,g1a,g1b,ret0 m81,sm,hw,trim_cut,bA,bB,-List.all_eq_true,-reify_agg]
    exact ih
   ·rw [decide_eq_false hu] at sm
    rw [decide_eq_false hu,Bool.false_and]
    simp -implicitDefEqProofs [r80_4,k80_4,hi3,xa,xb,f1a,f1b,st0,st1,d0,d1,g1a,g1b,ret0 m81,sm,trim_cut,bA,bB,-List.all_eq_true,-reify_agg]
 ·have hl':¬ (a.length:Int)=(b.length:Int):=by omega
  have hab:¬ a=b:=fun q=>hl (by rw [q])
  rw [decide_eq_false hab]
  simp -implicitDefEqProofs [r80,p80,na,nb,hl']
theorem drw_eq (a b:Drw):decide (a=b)=(decide (a.lot=b.lot) && decide (a.phs=b.phs)):=by
 obtain ⟨v,g⟩:=a
 obtain ⟨v',g'⟩:=b
 rw [Bool.eq_iff_iff]
 simp
theorem same_pure {k m:Option Bool} (a b:Drw) (hk:Rec.Ok k a.phs) (hm:Rec.Ok m b.phs) (ha:a.phs.length≤1000000) (hb:b.phs.length≤1000000) (hla:∀ p∈a.phs,Lens p) (hlb:∀ p∈b.phs,Lens p) :
  pureCall E.P (L E) 30 [drV k a,drV m b]=some (.bool (decide (a=b))):=by
 have ef:=eqf_pure a.phs b.phs hk hm ha hb hla hlb
 have ra:∀ h,reify E.P 8 h (phR.o k a.phs)=some (phR.o k a.phs):=fun h=>Rec.o_reify
 have rb:∀ h,reify E.P 8 h (phR.o m b.phs)=some (phR.o m b.phs):=fun h=>Rec.o_reify
 have fla:aBox [] tD (.agg ⟨[.int .i64 a.lot,phR.o k a.phs]⟩)=some (.pointer (some ⟨0,0,none⟩),[.cells tD [.int .i64 a.lot,phR.o k a.phs] 0]):=by cases k <;> rfl
 have flb:∀ X,aBox X tD (.agg ⟨[.int .i64 b.lot,phR.o m b.phs]⟩)=some (.pointer (some ⟨X.length,0,none⟩),X++[.cells tD [.int .i64 b.lot,phR.o m b.phs] 0]):=fun X=>by cases m <;> rfl
 have rf:∀ h,reify E.P 8 h (.func (.func 81) #[] #[])=some (.func (.func 81) #[] #[]):=fun h=>rfl
 rw [pureCall_fn F30 rfl,drw_eq]
 unfold drV
 generalize phR.o k a.phs=VA at *
 generalize phR.o m b.phs=VB at *
 generalize a.lot=la at *
 generalize b.lot=lb at *
 by_cases h1:la=lb
 ·subst h1
  simp -implicitDefEqProofs [r30,p30,fla,flb,ra,rb,rf,ret0 m80,ef,-aBox_eq]
 ·simp -implicitDefEqProofs [r30,p30,fla,flb,h1,-aBox_eq]
end Go.Proofs.YtplebjehcgcdeaaGreatDoor.Bm
namespace Go.Proofs.YtplebjehcgcdeaaGreatDoor.Bm
open Go Go.RowKit
section
variable {E:Env}
theorem ropR_le {C C':Callee} (hC:LeC C C') {lo:Nat} {strict:Bool} {op:ROp} {ρ:Operand→Value} {h:Heap} {r:Value × Heap} (hr:ropR E C lo strict op ρ h=some r):ropR E C' lo strict op ρ h=some r:=by
 cases op with
 | call f args =>
  simp only [ropR] at hr ⊢
  unfold aCall at *
  split at hr
  ·exact retCall_le hC hr
  ·cases hr
 | _=>exact hr
theorem runR_le {C C':Callee} (hC:LeC C C') {lo:Nat}:∀ (l:List RI) (σ:Slots) (h:Heap) (r:Slots × Heap),runR E C lo l σ h=some r→runR E C' lo l σ h=some r
 | [],σ,h,r,hr=>hr
 | o :: l,σ,h,r,hr=>by
  simp only [runR] at hr ⊢
  unfold grdK bndK at *
  split at hr
  ·exact bind_le (fun a ha=>ropR_le hC ha) (fun a b hb=>runR_le hC l _ _ _ hb) hr
  ·exact runR_le hC l _ _ _ hr
  ·cases hr
theorem runRQ_le {C C':Callee} (hC:LeC C C') {lo:Nat} {cm:Nat × Nat}:∀ (l:List (RI × Bool)) (σ:Slots) (h:Heap) (r:Slots × Heap),runRQ E C lo cm l σ h=some r→runRQ E C' lo cm l σ h=some r
 | [],σ,h,r,hr=>hr
 | (o,race) :: l,σ,h,r,hr=>by
  simp only [runRQ] at hr ⊢
  unfold grdK bndK at *
  split at hr
  ·refine bind_le (fun a ha=>ropR_le hC ha) (fun a b hb=>?_) hr
   simp only at hb ⊢
   split at hb
   ·cases hb
   ·rename_i hq
    rw [if_neg hq]
    exact runRQ_le hC l _ _ _ hb
  ·exact runRQ_le hC l _ _ _ hr
  ·cases hr
theorem evR_le {C C':Callee} (hC:LeC C C') {Lp Lp':List Nat × List Nat→Body→Body} (hL:∀ k b b',LeB b b'→LeB (Lp k b) (Lp' k b')) {lo:Nat}:∀ c:RCode,LeB (evR E C Lp lo c) (evR E C' Lp' lo c):=by
 intro c
 induction c with
 | region dirs l =>
  intro σ h r hr
  simp only [evR,regK,preK,Option.map_eq_some_iff] at hr ⊢
  obtain ⟨x,h1,h2⟩:=hr
  exact ⟨x,bind_le (fun a ha=>ha) (fun a b hb=>runR_le hC _ _ _ _ hb) h1,h2⟩
 | regionQ dirs s l =>
  intro σ h r hr
  simp only [evR,regK,preK,Option.map_eq_some_iff] at hr ⊢
  obtain ⟨x,h1,h2⟩:=hr
  exact ⟨x,bind_le (fun a ha=>ha) (fun a b hb=>bind_le (fun x hx=>hx) (fun x y hy=>runRQ_le hC _ _ _ _ hy) hb) h1,h2⟩
 | seq a b iha ihb =>
  intro σ h r hr
  simp only [evR,seqK] at hr ⊢
  refine bind_le (fun x hx=>iha _ _ _ hx) (fun x y hy=>?_) hr
  obtain ⟨e1,σ1,h1⟩:=x
  cases e1 <;> simp only at hy ⊢
  case normal=>exact ihb _ _ _ hy
  all_goals exact hy
 | cond c a b iha ihb =>
  intro σ h r hr
  simp only [evR] at hr ⊢
  unfold cndK at *
  split at hr
  ·exact iha _ _ _ hr
  ·exact ihb _ _ _ hr
  ·cases hr
 | block id a iha =>
  intro σ h r hr
  simp only [evR,blkK,Option.map_eq_some_iff] at hr ⊢
  obtain ⟨x,h1,h2⟩:=hr
  exact ⟨x,iha _ _ _ h1,h2⟩
 | loop k a iha=>intro σ h r hr;exact hL _ _ _ iha _ _ _ hr
 | scope a iha =>
  intro σ h r hr
  simp only [evR,scpK] at hr ⊢
  exact bind_le (fun x hx=>iha _ _ _ hx) (fun x y hy=>hy) hr
 | _=>intro σ h r hr;exact hr
end
end Go.Proofs.YtplebjehcgcdeaaGreatDoor.Bm
