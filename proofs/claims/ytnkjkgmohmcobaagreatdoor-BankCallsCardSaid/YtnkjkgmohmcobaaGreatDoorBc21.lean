/-
  Texts of this claim, joined: ZA, ZB.
-/
import Derived.Test.YtnkjkgmohmcobaaGreatDoorBc20
set_option maxHeartbeats 6400000
set_option maxRecDepth 100000
namespace Go.Proofs.YtnkjkgmohmcobaaGreatDoor.Vm
open Go Go.RowKit
def lvH0 (o:Obj):List (Nat × AObj):=[(0,.glob 0 o),
 (3,.row 116 [.bytes 1536 21182723078321149957346731499323912330264973046098408983948649172600161973601779125655948087441272934893739832951375010755644541392302504424156445749685258704899718305307014350705633059561814518771747610933312484082004118588049619785703894308858136992565490875961027306541762659075890794169089111173542738647373784671436948016281138018295177136915796766263338572478036089069209331363286103195906089958583173285525918981111185530872015992477751160003736073177819112270107479684756449984190291319201992343326943246117348036778816994061383514152745648535505637865138075530416267150478750996970375567442610277088037116152809708346652054204680885642446657619845737371740039035600254153177515585827177378520565601144003907729698956125383817892892654955198177429922715963631100872726163415495708321199036554488635265405805248084466605995570571721291906151487844001081914742903319306580837329644789687611554160687084765662267644975247144907621847076252142980680865317649763755383246333031697737798311247223356105015927320986049210946242119056451023030513271449637614014303900438794663319953693685231215399077835696271215221821391319547120151159296052395029912972318398206268822433559948584964758121674890061060495243649407310094965722262821259788719239559141274775021128170]),
 (4,.map [] 2),
 (5,.row 113 [.slice 3 0 3 (some 3) 512,.map 4,.nilslice,.int .i64 0,.int .i64 0,.int .i64 0,.bool false,.int .i64 0,.bool false,.int .i64 5]),
 (157,.map [] 0),
 (158,.row 165 [.ptr 5 0,.int .i64 4096,.int .i64 0,.int .i64 0,.map 157,.nilslice]),
 (172,.row 174 [.ptr 5 0,.iface 78 (.ptr 158 0),.int .i64 4,.nilslice]),
 (173,.map [] 0),
 (174,.map [] 0),
 (175,.map [] 0),
 (176,.map [] 0),
 (177,.row 201 [.map 173,.map 174,.map 175,.map 176]),
 (178,.map [] 0),
 (179,.map [] 0),
 (180,.row 205 [.map 178,.map 179]),
 (181,.map [] 0),
 (182,.map [] 0),
 (183,.row 209 [.map 181,.map 182]),
 (184,.map [] 0),
 (185,.row 142 [.int .i64 1,.map 184]),
 (186,.row 85 [.ptr 5 0,.int .i64 1,.int .i64 3,.int .i64 4,.int .i64 2,.int .i64 4,.ptr 158 0,.ptr 172 0,.ptr 177 0,.ptr 180 0,.ptr 183 0,.ptr 185 0]),
 (187,.row 64 [.int .i64 0,.int .i64 0,.int .i64 0,.int .i64 0,.str .empty,.nilslice,.int .i64 0,.int .i64 0,.int .i64 0,.nilp,.nilp,.int .i64 0,.int .i64 0,.bool false,.int .i64 0,.int .i64 0,.nilslice,.int .i64 0,.int .i64 0,.int .i64 0,.int .i64 1,.int .i64 0,.int .i64 0,.int .i64 0,.str .empty,.nilslice,.int .i64 0,.int .i64 0,.int .i64 0,.nilp,.nilp,.int .i64 0,.int .i64 0,.bool false,.int .i64 0,.int .i64 0,.nilslice,.int .i64 0,.int .i64 0,.int .i64 0]),
 (188,.row 73 [.ptr 186 0,.slice 187 0 2 (some 2) 20,.nilslice,.int .i64 0])]
def lvN0:List Nat:=[0,3,4,5,157,158,172,173,174,175,176,177,178,179,180,181,182,183,184,185,186,187,188]
theorem lvG0 (o:Obj):(ofH (lvH0 o)).get 0=some (.glob 0 o):=by kernel_rfl
def lvD1:List (Nat × AObj):=[(184,.map [(.int .i64 1,.agg [.int .i64 1,.int .i64 0,.int .i64 0,.int .i64 0],0)] 1),
 (185,.row 142 [.int .i64 2,.map 184]),
 (187,.row 64 [.int .i64 0,.int .i64 0,.int .i64 1,.int .i64 0,.str .empty,.nilslice,.int .i64 0,.int .i64 0,.int .i64 0,.nilp,.nilp,.int .i64 0,.int .i64 0,.bool true,.int .i64 0,.int .i64 0,.nilslice,.int .i64 0,.int .i64 0,.int .i64 0,.int .i64 1,.int .i64 0,.int .i64 0,.int .i64 0,.str .empty,.nilslice,.int .i64 0,.int .i64 0,.int .i64 0,.nilp,.nilp,.int .i64 0,.int .i64 0,.bool false,.int .i64 0,.int .i64 0,.nilslice,.int .i64 0,.int .i64 0,.int .i64 0]),
 (188,.row 73 [.ptr 186 0,.slice 187 0 2 (some 2) 20,.slice 199 0 1 none 15,.int .i64 0]),
 (199,.row 76 [.int .i64 0,.int .i64 0,.int .i64 1,.int .i64 0,.str .empty,.nilslice,.int .i64 0,.int .i64 0,.int .i64 0,.int .i64 0,.int .i64 0,.nilslice,.int .i64 0,.int .i64 0,.int .i64 0])]
def lvN1:List Nat:=[0,3,4,5,157,158,172,173,174,175,176,177,178,179,180,181,182,183,184,185,186,187,188,199]
noncomputable def lvH1 (o:Obj):List (Nat × AObj):=updL (lvD1++lvH0 o) lvN1
theorem lvG1 (o:Obj):(ofH (lvH1 o)).get 0=some (.glob 0 o):=by kernel_rfl
def lvD2:List (Nat × AObj):=[(5,.row 113 [.slice 3 0 3 (some 3) 512,.map 4,.slice 631 0 112 none 1,.int .i64 0,.int .i64 0,.int .i64 0,.bool false,.int .i64 0,.bool false,.int .i64 8]),
 (157,.map [(.int .i64 112,.agg [.int .i64 1,.int .i64 1,.int .i64 0,.int .i64 0,.slice 635 0 1 none 3,.int .i64 1,.str ⟨#[97]⟩,.int .i64 2,.str ⟨#[97]⟩,.int .i64 1,.nilslice,.int .i64 0,.int .i64 0,.int .i64 0,.int .i64 0],0)] 1),
 (158,.row 165 [.ptr 5 0,.int .i64 4096,.int .i64 352,.int .i64 0,.map 157,.slice 644 0 1 none 1]),
 (172,.row 174 [.ptr 5 0,.iface 78 (.ptr 158 0),.int .i64 4,.slice 282 0 2 none 1]),
 (173,.map [(.str ⟨#[97]⟩,.map 219,0)] 1),
 (174,.map [(.int .i64 1,.map 220,0)] 1),
 (178,.map [] 1),
 (179,.map [] 1),
 (184,.map [(.int .i64 1,.agg [.int .i64 1,.int .i64 0,.int .i64 112,.int .i64 352],0)] 1),
 (188,.row 73 [.ptr 186 0,.slice 187 0 2 (some 2) 20,.slice 705 0 2 none 15,.int .i64 0]),
 (219,.map [(.int .i64 1,.int .i64 2,0)] 1),
 (220,.map [(.str ⟨#[97]⟩,.agg [],0)] 1),
 (241,.row 240 [.int .i64 0,.bytes 512 98080468767388809108255909163509379356738504571674397162,.bool false,.int .i64 0]),
 (280,.row 240 [.int .i64 1,.bytes 512 2678788035737568216959763127699015100154699595797798351668162020967287092341999423140,.bool true,.int .i64 0]),
 (282,.row 167 [.ptr 241 0,.ptr 280 0]),
 (631,.row 5 [.bytes 112 911544387612547400370763593100878259494585669816413847110693985768479957193423866213388063208780722332393584727123312668160]),
 (635,.row 222 [.int .i64 1,.bool false,.slice 638 0 1 none 2]),
 (638,.row 338 [.int .i64 32,.slice 641 0 4 none 1]),
 (641,.row 5 [.bytes 4 23134465]),
 (644,.row 3 [.int .i64 112]),
 (705,.row 76 [.int .i64 0,.int .i64 0,.int .i64 1,.int .i64 0,.str .empty,.nilslice,.int .i64 0,.int .i64 0,.int .i64 0,.int .i64 0,.int .i64 0,.nilslice,.int .i64 0,.int .i64 0,.int .i64 0,.int .i64 1,.int .i64 0,.int .i64 1,.int .i64 1,.str ⟨#[97]⟩,.nilslice,.int .i64 0,.int .i64 0,.int .i64 0,.int .i64 0,.int .i64 0,.nilslice,.int .i64 0,.int .i64 0,.int .i64 0])]
def lvN2:List Nat:=[0,3,4,5,157,158,172,173,174,175,176,177,178,179,180,181,182,183,184,185,186,187,188,219,220,241,280,282,631,635,638,641,644,705]
noncomputable def lvH2 (o:Obj):List (Nat × AObj):=updL (lvD2++lvH1 o) lvN2
theorem lvG2 (o:Obj):(ofH (lvH2 o)).get 0=some (.glob 0 o):=by kernel_rfl
def lvD3:List (Nat × AObj):=[(184,.map [(.int .i64 1,.agg [.int .i64 1,.int .i64 0,.int .i64 112,.int .i64 352],0),(.int .i64 2,.agg [.int .i64 2,.int .i64 0,.int .i64 0,.int .i64 0],1)] 2),
 (185,.row 142 [.int .i64 3,.map 184]),
 (187,.row 64 [.int .i64 0,.int .i64 0,.int .i64 1,.int .i64 0,.str .empty,.nilslice,.int .i64 0,.int .i64 0,.int .i64 0,.nilp,.nilp,.int .i64 0,.int .i64 0,.bool true,.int .i64 0,.int .i64 0,.nilslice,.int .i64 0,.int .i64 0,.int .i64 0,.int .i64 1,.int .i64 0,.int .i64 2,.int .i64 0,.str .empty,.nilslice,.int .i64 0,.int .i64 0,.int .i64 0,.nilp,.nilp,.int .i64 0,.int .i64 0,.bool true,.int .i64 0,.int .i64 0,.nilslice,.int .i64 0,.int .i64 0,.int .i64 0]),
 (188,.row 73 [.ptr 186 0,.slice 187 0 2 (some 2) 20,.slice 722 0 3 none 15,.int .i64 0]),
 (722,.row 76 [.int .i64 0,.int .i64 0,.int .i64 1,.int .i64 0,.str .empty,.nilslice,.int .i64 0,.int .i64 0,.int .i64 0,.int .i64 0,.int .i64 0,.nilslice,.int .i64 0,.int .i64 0,.int .i64 0,.int .i64 1,.int .i64 0,.int .i64 1,.int .i64 1,.str ⟨#[97]⟩,.nilslice,.int .i64 0,.int .i64 0,.int .i64 0,.int .i64 0,.int .i64 0,.nilslice,.int .i64 0,.int .i64 0,.int .i64 0,.int .i64 0,.int .i64 1,.int .i64 2,.int .i64 0,.str .empty,.nilslice,.int .i64 0,.int .i64 0,.int .i64 0,.int .i64 0,.int .i64 0,.nilslice,.int .i64 0,.int .i64 0,.int .i64 0])]
def lvN3:List Nat:=[0,3,4,5,157,158,172,173,174,175,176,177,178,179,180,181,182,183,184,185,186,187,188,219,220,241,280,282,631,635,638,641,644,722]
noncomputable def lvH3 (o:Obj):List (Nat × AObj):=updL (lvD3++lvH2 o) lvN3
theorem lvG3 (o:Obj):(ofH (lvH3 o)).get 0=some (.glob 0 o):=by kernel_rfl
def lvD4:List (Nat × AObj):=[(5,.row 113 [.slice 3 0 3 (some 3) 512,.map 4,.slice 1212 0 224 none 1,.int .i64 0,.int .i64 0,.int .i64 0,.bool false,.int .i64 0,.bool false,.int .i64 9]),
 (157,.map [(.int .i64 112,.agg [.int .i64 1,.int .i64 1,.int .i64 0,.int .i64 0,.slice 635 0 1 none 3,.int .i64 1,.str ⟨#[97]⟩,.int .i64 2,.str ⟨#[97]⟩,.int .i64 1,.nilslice,.int .i64 0,.int .i64 0,.int .i64 0,.int .i64 0],0),(.int .i64 224,.agg [.int .i64 1,.int .i64 2,.int .i64 0,.int .i64 0,.slice 1216 0 1 none 3,.int .i64 1,.str ⟨#[98]⟩,.int .i64 2,.str ⟨#[98]⟩,.int .i64 1,.nilslice,.int .i64 0,.int .i64 0,.int .i64 0,.int .i64 0],1)] 2),
 (158,.row 165 [.ptr 5 0,.int .i64 4096,.int .i64 704,.int .i64 0,.map 157,.slice 1225 0 2 none 1]),
 (173,.map [(.str ⟨#[97]⟩,.map 219,0),(.str ⟨#[98]⟩,.map 742,1)] 2),
 (174,.map [(.int .i64 1,.map 220,0),(.int .i64 2,.map 743,1)] 2),
 (178,.map [] 2),
 (179,.map [] 2),
 (184,.map [(.int .i64 1,.agg [.int .i64 1,.int .i64 0,.int .i64 112,.int .i64 352],0),(.int .i64 2,.agg [.int .i64 2,.int .i64 112,.int .i64 224,.int .i64 352],1)] 2),
 (188,.row 73 [.ptr 186 0,.slice 187 0 2 (some 2) 20,.slice 1286 0 4 none 15,.int .i64 0]),
 (280,.row 240 [.int .i64 1,.bytes 512 36018421293894539596165259281309547744462310853993378495122618421256420128374896449253265415703007117097793302661171595514253863195043737996321856225242680149512530385706910789379187875933469706244142204355572971561524865179119435250159268,.bool true,.int .i64 0]),
 (742,.map [(.int .i64 2,.int .i64 2,0)] 1),
 (743,.map [(.str ⟨#[98]⟩,.agg [],0)] 1),
 (1212,.row 5 [.bytes 224 482928103433048854906904369064075745838312950640627269483042715824359551334683088661127767443827817171447940307078115494138958657305518346452471052694611349498818338582504995387434847922635432142044908717707330183542143165885463859159776482232969943981501076606250449443066656408098603327146028469132384018916445379575623337186115443115294810020836984390263449303119550737163163391624612572672]),
 (1216,.row 222 [.int .i64 1,.bool false,.slice 1219 0 1 none 2]),
 (1219,.row 338 [.int .i64 96,.slice 1222 0 4 none 1]),
 (1222,.row 5 [.bytes 4 23200001]),
 (1225,.row 3 [.int .i64 112,.int .i64 224]),
 (1286,.row 76 [.int .i64 0,.int .i64 0,.int .i64 1,.int .i64 0,.str .empty,.nilslice,.int .i64 0,.int .i64 0,.int .i64 0,.int .i64 0,.int .i64 0,.nilslice,.int .i64 0,.int .i64 0,.int .i64 0,.int .i64 1,.int .i64 0,.int .i64 1,.int .i64 1,.str ⟨#[97]⟩,.nilslice,.int .i64 0,.int .i64 0,.int .i64 0,.int .i64 0,.int .i64 0,.nilslice,.int .i64 0,.int .i64 0,.int .i64 0,.int .i64 0,.int .i64 1,.int .i64 2,.int .i64 0,.str .empty,.nilslice,.int .i64 0,.int .i64 0,.int .i64 0,.int .i64 0,.int .i64 0,.nilslice,.int .i64 0,.int .i64 0,.int .i64 0,.int .i64 1,.int .i64 1,.int .i64 2,.int .i64 1,.str ⟨#[98]⟩,.nilslice,.int .i64 0,.int .i64 0,.int .i64 0,.int .i64 0,.int .i64 0,.nilslice,.int .i64 0,.int .i64 0,.int .i64 0])]
def lvN4:List Nat:=[0,3,4,5,157,158,172,173,174,175,176,177,178,179,180,181,182,183,184,185,186,187,188,219,220,241,280,282,635,638,641,742,743,1212,1216,1219,1222,1225,1286]
noncomputable def lvH4 (o:Obj):List (Nat × AObj):=updL (lvD4++lvH3 o) lvN4
theorem lvG4 (o:Obj):(ofH (lvH4 o)).get 0=some (.glob 0 o):=by kernel_rfl
def lvD5:List (Nat × AObj):=[(175,.map [(.str ⟨#[98]⟩,.ptr 1308 0,0)] 1),
 (176,.map [(.int .i64 1,.agg [.str ⟨#[98]⟩,.int .i64 1],0)] 1),
 (187,.row 64 [.int .i64 0,.int .i64 2,.int .i64 1,.int .i64 1,.str ⟨#[98]⟩,.nilslice,.int .i64 0,.int .i64 0,.int .i64 0,.nilp,.nilp,.int .i64 0,.int .i64 0,.bool true,.int .i64 0,.int .i64 0,.nilslice,.int .i64 0,.int .i64 0,.int .i64 0,.int .i64 1,.int .i64 0,.int .i64 2,.int .i64 0,.str .empty,.nilslice,.int .i64 0,.int .i64 0,.int .i64 0,.nilp,.nilp,.int .i64 0,.int .i64 0,.bool true,.int .i64 0,.int .i64 0,.nilslice,.int .i64 0,.int .i64 0,.int .i64 0]),
 (1308,.row 343 [.slice 1311 0 1 none 2,.int .i64 0]),
 (1311,.row 270 [.int .i64 1,.int .i64 1])]
def lvN5:List Nat:=[0,3,4,5,157,158,172,173,174,175,176,177,178,179,180,181,182,183,184,185,186,187,188,219,220,241,280,282,635,638,641,742,743,1212,1216,1219,1222,1225,1286,1308,1311]
noncomputable def lvH5 (o:Obj):List (Nat × AObj):=updL (lvD5++lvH4 o) lvN5
theorem lvG5 (o:Obj):(ofH (lvH5 o)).get 0=some (.glob 0 o):=by kernel_rfl
noncomputable def lvL:List Code:=flatK (bodyOf Tryz.f20)
noncomputable def lvB:Code:=loopOf (lvL.drop 4)
theorem lvL_eq:lvL=lvL.take 4++([.block 0 (.loop lvB)]++lvL.drop 5):=by kernel_rfl
def lvPD0:List (Nat × AObj):=[(187,.row 64 [.int .i64 0,.int .i64 1,.int .i64 1,.int .i64 1,.str ⟨#[98]⟩,.nilslice,.int .i64 0,.int .i64 0,.int .i64 0,.nilp,.nilp,.int .i64 0,.int .i64 0,.bool true,.int .i64 0,.int .i64 0,.nilslice,.int .i64 0,.int .i64 0,.int .i64 0,.int .i64 1,.int .i64 0,.int .i64 2,.int .i64 0,.str .empty,.nilslice,.int .i64 0,.int .i64 0,.int .i64 0,.nilp,.nilp,.int .i64 0,.int .i64 0,.bool true,.int .i64 0,.int .i64 0,.nilslice,.int .i64 0,.int .i64 0,.int .i64 0]),
 (1294,.row 43 [.int .i64 0,.int .i64 0,.nilslice,.int .i64 0,.int .i64 0,.int .i64 0])]
def lvPN0:List Nat:=[0,3,4,5,157,158,172,173,174,175,176,177,178,179,180,181,182,183,184,185,186,187,188,219,220,241,280,282,635,638,641,742,743,1212,1216,1219,1222,1225,1286,1294]
noncomputable def lvPH0 (o:Obj):List (Nat × AObj):=updL (lvPD0++lvH4 o) lvPN0
def lvPT0:List (Nat × AV):=[(0,.ptr 188 0),(1,.int .i64 0),(6,.ptr 1294 0),(7,.bool false),(8,.int .i64 0)]
def lvPD1:List (Nat × AObj):=[(175,.map [(.str ⟨#[98]⟩,.ptr 1308 0,0)] 1),
 (176,.map [(.int .i64 1,.agg [.str ⟨#[98]⟩,.int .i64 1],0)] 1),
 (187,.row 64 [.int .i64 0,.int .i64 2,.int .i64 1,.int .i64 1,.str ⟨#[98]⟩,.nilslice,.int .i64 0,.int .i64 0,.int .i64 0,.nilp,.nilp,.int .i64 0,.int .i64 0,.bool true,.int .i64 0,.int .i64 0,.nilslice,.int .i64 0,.int .i64 0,.int .i64 0,.int .i64 1,.int .i64 0,.int .i64 2,.int .i64 0,.str .empty,.nilslice,.int .i64 0,.int .i64 0,.int .i64 0,.nilp,.nilp,.int .i64 0,.int .i64 0,.bool true,.int .i64 0,.int .i64 0,.nilslice,.int .i64 0,.int .i64 0,.int .i64 0]),
 (1308,.row 343 [.slice 1311 0 1 none 2,.int .i64 0]),
 (1311,.row 270 [.int .i64 1,.int .i64 1])]
def lvPN1:List Nat:=[0,3,4,5,157,158,172,173,174,175,176,177,178,179,180,181,182,183,184,185,186,187,188,219,220,241,280,282,635,638,641,742,743,1212,1216,1219,1222,1225,1286,1294,1308,1311]
noncomputable def lvPH1 (o:Obj):List (Nat × AObj):=updL (lvPD1++lvPH0 o) lvPN1
def lvPT1:List (Nat × AV):=[(0,.ptr 188 0),(1,.int .i64 0),(6,.ptr 1294 0),(7,.bool false),(8,.int .i64 60),(10,.int .i64 0),(18,.int .i64 59),(19,.bool true),(20,.bool true),(21,.ptr 188 0),(22,.int .i64 0),(23,.int .i64 2),(24,.bool true),(25,.bool true),(26,.int .i64 59),(27,.int .i64 60),(28,.tuple [.bool false,.int .i64 0]),(29,.ptr 188 0),(30,.int .i64 0),(31,.tuple [.bool false,.int .i64 0]),(32,.bool false),(33,.int .i64 0),(34,.int .i64 0),(35,.int .i64 0),(36,.bool false),(37,.any),(38,.any),(39,.any),(40,.any),(41,.any),(42,.any)]
def lvPD2:List (Nat × AObj):=[]
def lvPN2:List Nat:=[0,3,4,5,157,158,172,173,174,175,176,177,178,179,180,181,182,183,184,185,186,187,188,219,220,241,280,282,635,638,641,742,743,1212,1216,1219,1222,1225,1286,1294,1308,1311]
noncomputable def lvPH2 (o:Obj):List (Nat × AObj):=updL (lvPD2++lvPH1 o) lvPN2
def lvPT2:List (Nat × AV):=[(0,.ptr 188 0),(1,.int .i64 0),(6,.ptr 1294 0),(7,.bool false),(8,.int .i64 120),(10,.int .i64 0),(18,.int .i64 119),(19,.bool true),(20,.bool true),(21,.ptr 188 0),(22,.int .i64 0),(23,.int .i64 2),(24,.bool true),(25,.bool true),(26,.int .i64 119),(27,.int .i64 120),(28,.tuple [.bool false,.int .i64 0]),(29,.ptr 188 0),(30,.int .i64 0),(31,.tuple [.bool false,.int .i64 0]),(32,.bool false),(33,.int .i64 0),(34,.int .i64 0),(35,.int .i64 0),(36,.bool false),(37,.any),(38,.any),(39,.any),(40,.any),(41,.any),(42,.any)]
def lvPD3:List (Nat × AObj):=[]
def lvPN3:List Nat:=[0,3,4,5,157,158,172,173,174,175,176,177,178,179,180,181,182,183,184,185,186,187,188,219,220,241,280,282,635,638,641,742,743,1212,1216,1219,1222,1225,1286,1294,1308,1311]
noncomputable def lvPH3 (o:Obj):List (Nat × AObj):=updL (lvPD3++lvPH2 o) lvPN3
def lvPT3:List (Nat × AV):=[(0,.ptr 188 0),(1,.int .i64 0),(6,.ptr 1294 0),(7,.bool false),(8,.int .i64 180),(10,.int .i64 0),(18,.int .i64 179),(19,.bool true),(20,.bool true),(21,.ptr 188 0),(22,.int .i64 0),(23,.int .i64 2),(24,.bool true),(25,.bool true),(26,.int .i64 179),(27,.int .i64 180),(28,.tuple [.bool false,.int .i64 0]),(29,.ptr 188 0),(30,.int .i64 0),(31,.tuple [.bool false,.int .i64 0]),(32,.bool false),(33,.int .i64 0),(34,.int .i64 0),(35,.int .i64 0),(36,.bool false),(37,.any),(38,.any),(39,.any),(40,.any),(41,.any),(42,.any)]
def lvPD4:List (Nat × AObj):=[]
def lvPN4:List Nat:=[0,3,4,5,157,158,172,173,174,175,176,177,178,179,180,181,182,183,184,185,186,187,188,219,220,241,280,282,635,638,641,742,743,1212,1216,1219,1222,1225,1286,1294,1308,1311]
noncomputable def lvPH4 (o:Obj):List (Nat × AObj):=updL (lvPD4++lvPH3 o) lvPN4
def lvPT4:List (Nat × AV):=[(0,.ptr 188 0),(1,.int .i64 0),(6,.ptr 1294 0),(7,.bool false),(8,.int .i64 240),(10,.int .i64 0),(18,.int .i64 239),(19,.bool true),(20,.bool true),(21,.ptr 188 0),(22,.int .i64 0),(23,.int .i64 2),(24,.bool true),(25,.bool true),(26,.int .i64 239),(27,.int .i64 240),(28,.tuple [.bool false,.int .i64 0]),(29,.ptr 188 0),(30,.int .i64 0),(31,.tuple [.bool false,.int .i64 0]),(32,.bool false),(33,.int .i64 0),(34,.int .i64 0),(35,.int .i64 0),(36,.bool false),(37,.any),(38,.any),(39,.any),(40,.any),(41,.any),(42,.any)]
def lvPD5:List (Nat × AObj):=[]
def lvPN5:List Nat:=[0,3,4,5,157,158,172,173,174,175,176,177,178,179,180,181,182,183,184,185,186,187,188,219,220,241,280,282,635,638,641,742,743,1212,1216,1219,1222,1225,1286,1294,1308,1311]
noncomputable def lvPH5 (o:Obj):List (Nat × AObj):=updL (lvPD5++lvPH4 o) lvPN5
def lvPT5:List (Nat × AV):=[(0,.ptr 188 0),(1,.int .i64 0),(6,.ptr 1294 0),(7,.bool false),(8,.int .i64 300),(10,.int .i64 0),(18,.int .i64 299),(19,.bool true),(20,.bool true),(21,.ptr 188 0),(22,.int .i64 0),(23,.int .i64 2),(24,.bool true),(25,.bool true),(26,.int .i64 299),(27,.int .i64 300),(28,.tuple [.bool false,.int .i64 0]),(29,.ptr 188 0),(30,.int .i64 0),(31,.tuple [.bool false,.int .i64 0]),(32,.bool false),(33,.int .i64 0),(34,.int .i64 0),(35,.int .i64 0),(36,.bool false),(37,.any),(38,.any),(39,.any),(40,.any),(41,.any),(42,.any)]
def lvD6:List (Nat × AObj):=[(5,.row 113 [.slice 3 0 3 (some 3) 512,.map 4,.slice 3903 0 300 none 1,.int .i64 0,.int .i64 0,.int .i64 0,.bool false,.int .i64 0,.bool false,.int .i64 11]),
 (157,.map [(.int .i64 112,.agg [.int .i64 1,.int .i64 1,.int .i64 0,.int .i64 0,.slice 635 0 1 none 3,.int .i64 1,.str ⟨#[97]⟩,.int .i64 2,.str ⟨#[97]⟩,.int .i64 1,.nilslice,.int .i64 0,.int .i64 0,.int .i64 0,.int .i64 0],0),(.int .i64 224,.agg [.int .i64 1,.int .i64 2,.int .i64 0,.int .i64 0,.slice 1216 0 1 none 3,.int .i64 1,.str ⟨#[98]⟩,.int .i64 2,.str ⟨#[98]⟩,.int .i64 1,.nilslice,.int .i64 0,.int .i64 0,.int .i64 0,.int .i64 0],1),(.int .i64 267,.agg [.int .i64 2,.int .i64 2,.int .i64 224,.int .i64 0,.slice 3715 0 1 none 3,.int .i64 0,.str .empty,.int .i64 0,.str .empty,.int .i64 0,.nilslice,.int .i64 0,.int .i64 0,.int .i64 0,.int .i64 0],2),(.int .i64 300,.agg [.int .i64 4,.int .i64 2,.int .i64 267,.int .i64 0,.nilslice,.int .i64 0,.str .empty,.int .i64 0,.str .empty,.int .i64 0,.nilslice,.int .i64 0,.int .i64 0,.int .i64 0,.int .i64 0],3)] 4),
 (158,.row 165 [.ptr 5 0,.int .i64 4096,.int .i64 352,.int .i64 0,.map 157,.slice 3908 0 4 none 1]),
 (173,.map [(.str ⟨#[97]⟩,.map 219,0),(.str ⟨#[98]⟩,.map 3932,2)] 3),
 (174,.map [(.int .i64 1,.map 220,0)] 2),
 (175,.map [] 2),
 (176,.map [] 2),
 (178,.map [] 3),
 (179,.map [] 3),
 (184,.map [(.int .i64 1,.agg [.int .i64 1,.int .i64 0,.int .i64 112,.int .i64 352],0)] 2),
 (187,.row 64 [.int .i64 0,.int .i64 3,.int .i64 1,.int .i64 1,.str ⟨#[98]⟩,.nilslice,.int .i64 0,.int .i64 0,.int .i64 0,.ptr 3948 0,.nilp,.int .i64 0,.int .i64 0,.bool true,.int .i64 0,.int .i64 0,.nilslice,.int .i64 0,.int .i64 0,.int .i64 0,.int .i64 1,.int .i64 0,.int .i64 0,.int .i64 0,.str .empty,.nilslice,.int .i64 0,.int .i64 0,.int .i64 0,.nilp,.nilp,.int .i64 0,.int .i64 0,.bool true,.int .i64 10,.int .i64 0,.nilslice,.int .i64 0,.int .i64 0,.int .i64 0]),
 (188,.row 73 [.ptr 186 0,.slice 187 0 2 (some 2) 20,.slice 3917 0 5 none 15,.int .i64 0]),
 (220,.map [(.str ⟨#[97]⟩,.agg [],0),(.str ⟨#[98]⟩,.agg [],1)] 2),
 (280,.row 240 [.int .i64 1,.bytes 512 36018422846412631896874194430289036206964866110879395611819229560308458154425849135630151746581415945744271253148902292645327069366623782111136247669529955190693669590161886810229093426198755337842587029618572099358895449945081279862558372,.bool true,.int .i64 0]),
 (3715,.row 222 [.int .i64 1,.bool false,.slice 3718 0 1 none 2]),
 (3718,.row 338 [.int .i64 96,.slice 3721 0 1 none 1]),
 (3721,.row 5 [.bytes 1 2]),
 (3903,.row 5 [.bytes 300 10541365134563139879084518215122531217441181152906816866595027192277322349723032215740449638569013529137183258457549449051022046635349578255010567909260794505252899419145988061224479003249010553142134010286116260045718711114583233817627306071850998399826929957517351992337796209694224041540683635691383122983674009253595265015268625403436782849701770677474376013726751968954026349330159651465903095649241414382152770256531172573093873426544461763486335498101341122990063604507080914423237817226170986407783795998686637554612862258944279820928567185002934099801741605724769203626130525085832050391171904077026762501228786685713697731535280550308117903702750861467114652859424336702264369757403377152]),
 (3908,.row 3 [.int .i64 112,.int .i64 224,.int .i64 267,.int .i64 300]),
 (3917,.row 76 [.int .i64 0,.int .i64 0,.int .i64 1,.int .i64 0,.str .empty,.nilslice,.int .i64 0,.int .i64 0,.int .i64 0,.int .i64 0,.int .i64 0,.nilslice,.int .i64 0,.int .i64 0,.int .i64 0,.int .i64 1,.int .i64 0,.int .i64 1,.int .i64 1,.str ⟨#[97]⟩,.nilslice,.int .i64 0,.int .i64 0,.int .i64 0,.int .i64 0,.int .i64 0,.nilslice,.int .i64 0,.int .i64 0,.int .i64 0,.int .i64 0,.int .i64 1,.int .i64 2,.int .i64 0,.str .empty,.nilslice,.int .i64 0,.int .i64 0,.int .i64 0,.int .i64 0,.int .i64 0,.nilslice,.int .i64 0,.int .i64 0,.int .i64 0,.int .i64 1,.int .i64 1,.int .i64 2,.int .i64 1,.str ⟨#[98]⟩,.nilslice,.int .i64 0,.int .i64 0,.int .i64 0,.int .i64 0,.int .i64 0,.nilslice,.int .i64 0,.int .i64 0,.int .i64 0,.int .i64 4,.int .i64 1,.int .i64 2,.int .i64 0,.str .empty,.nilslice,.int .i64 0,.int .i64 0,.int .i64 0,.int .i64 10,.int .i64 0,.nilslice,.int .i64 0,.int .i64 0,.int .i64 0]),
 (3932,.map [(.int .i64 1,.int .i64 2,0)] 1),
 (3948,.row 217 [.int .i64 1,.int .i64 1,.str ⟨#[98]⟩,.nilslice,.int .i64 0,.int .i64 0,.int .i64 0,.int .i64 0,.int .i64 0,.int .i64 0,.nilslice,.int .i64 0,.int .i64 0,.int .i64 0,.int .i64 0,.int .i64 0,.int .i64 0,.bool false,.int .i64 0,.int .i64 0,.int .i64 0,.str .empty,.int .i64 0,.nilslice,.int .i64 0,.int .i64 0,.int .i64 0,.bool false,.int .i64 0,.int .i64 0])]
def lvN6:List Nat:=[0,3,4,5,157,158,172,173,174,175,176,177,178,179,180,181,182,183,184,185,186,187,188,219,220,241,280,282,635,638,641,1216,1219,1222,3715,3718,3721,3903,3908,3917,3932,3948]
noncomputable def lvH6 (o:Obj):List (Nat × AObj):=updL (lvD6++lvH5 o) lvN6
theorem lvG6 (o:Obj):(ofH (lvH6 o)).get 0=some (.glob 0 o):=by kernel_rfl
end Go.Proofs.YtnkjkgmohmcobaaGreatDoor.Vm
namespace Go.Proofs.YtnkjkgmohmcobaaGreatDoor.Vm
open Go Go.RowKit
theorem lvO (o:Obj):cutV lvN0 ((evN envT 3000).call 7 [.agg [.int .i64 1,.int .i64 3,.int .i64 4,.int .i64 2,.int .i64 4]] (.mk (ofH [(0,.glob 0 o)]) 1 [] []))=some (.tuple [.ptr 186 0,.ptr 188 0],lvH0 o,189):=by kernel_rfl
theorem lvA1 (o:Obj):cutV lvN1 ((evN envT 3000).call 20 [.ptr 188 0,.int .i64 0,.agg [.int .i64 6,.str .empty,.nilslice,.int .i64 0,.int .i64 0,.int .i64 0]] (.mk (ofH (lvH0 o)) 189 [] []))=some (.tuple [.agg [.int .i64 0,.int .i64 0,.nilslice,.int .i64 0,.int .i64 0,.int .i64 0],.bool true],lvH1 o,204):=by kernel_rfl
theorem lvA3 (o:Obj):cutV lvN3 ((evN envT 3000).call 20 [.ptr 188 0,.int .i64 1,.agg [.int .i64 6,.str .empty,.nilslice,.int .i64 0,.int .i64 0,.int .i64 0]] (.mk (ofH (lvH2 o)) 712 [] []))=some (.tuple [.agg [.int .i64 0,.int .i64 0,.nilslice,.int .i64 0,.int .i64 0,.int .i64 0],.bool true],lvH3 o,727):=by kernel_rfl
theorem lvSt (o:Obj):cutV lvN6 ((evN envT 3000).call 13 [.ptr 188 0,.int .i64 0] (.mk (ofH (lvH6 o)) 3957 [] []))=some (.int .i64 3,lvH6 o,3957):=by kernel_rfl
theorem lvTx (o:Obj):cutV lvN6 ((evN envT 3000).call 14 [.ptr 188 0,.int .i64 1] (.mk (ofH (lvH6 o)) 3957 [] []))=some (.int .i64 0,lvH6 o,3957):=by kernel_rfl
end Go.Proofs.YtnkjkgmohmcobaaGreatDoor.Vm
