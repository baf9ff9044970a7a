/- part -/
import Derived.Test.YtpechfcbnoggfaaGreatDoorAmH
import Derived.Test.YtpechfcbnoggfaaGreatDoorProg
import Derived.KernelRfl
set_option linter.unusedVariables false
set_option linter.unusedSimpArgs false
section
namespace Go.Proofs.YtpechfcbnoggfaaGreatDoor
open Go Go.AM Go.Nest
def GZ:List (Nat×TD):=[
 (2,⟨1,false,8,(.int .i64),[.int .i64 0],false,Int,encI⟩),
 (3,⟨1,false,8,(.int .i64),[.int .i64 0],false,Int,encI⟩),
 (4,⟨1,false,1,.bool,[.bool false],false,Bool,af⟩),
 (5,⟨1,false,1,(.int .u8),[.int .u8 0],false,UInt8,bA⟩),
 (9,⟨1,false,16,.str,[.str []],false,(List UInt8),encS⟩),
 (21,⟨1,false,4,(.int .i32),[.int .i32 0],false,Unit,(fun _=>[])⟩),
 (22,⟨1,false,24,(.sl 9),[.nil],false,(List (List UInt8)),(bq 1 encS)⟩),
 (25,⟨1,false,8,(.int .u64),[.int .u64 0],false,Unit,(fun _=>[])⟩),
 (29,⟨2,true,16,(.struct [(3,0),(3,1)]),[.int .i64 0,.int .i64 0],false,Unit,(fun _=>[])⟩),
 (33,⟨1,false,24,(.sl 5),[.nil],false,(List UInt8),(bq 1 bA)⟩),
 (39,⟨1,false,24,(.sl 44),[.nil],false,(List Unit),(bq 7 (fun _=>[]))⟩),
 (41,⟨1,false,8,.ptr,[.raw (.pointer none)],false,Unit,(fun _=>[])⟩),
 (44,⟨7,true,96,(.struct [(3,0),(3,1),(3,2),(9,3),(9,4),(9,5),(33,6)]),[.int .i64 0,.int .i64 0,.int .i64 0,.str [],.str [],.str [],.nil],false,Unit,(fun _=>[])⟩),
 (46,⟨3,true,40,(.struct [(3,0),(3,1),(22,2)]),[.int .i64 0,.int .i64 0,.nil],false,Unit,(fun _=>[])⟩),
 (50,⟨1,false,24,(.sl 126),[.nil],false,(List Dc),(bq 2 cQ)⟩),
 (52,⟨1,false,24,(.sl 100),[.nil],false,(List Rf),(bq 2 bg)⟩),
 (55,⟨4,true,96,(.arr 4 50),[.nil,.nil,.nil,.nil],false,Unit,(fun _=>[])⟩),
 (56,⟨4,true,32,(.arr 4 3),[.int .i64 0,.int .i64 0,.int .i64 0,.int .i64 0],false,Unit,(fun _=>[])⟩),
 (57,⟨1,false,24,(.sl 3),[.nil],false,(List Int),(bq 1 encI)⟩),
 (58,⟨4,true,96,(.arr 4 57),[.nil,.nil,.nil,.nil],false,Unit,(fun _=>[])⟩),
 (61,⟨1,false,8,.ptr,[.raw (.pointer none)],false,Unit,(fun _=>[])⟩),
 (62,⟨1,false,8,.ptr,[.raw (.pointer none)],false,Unit,(fun _=>[])⟩),
 (63,⟨1,false,8,.ptr,[.raw (.pointer none)],false,Unit,(fun _=>[])⟩),
 (65,⟨2,true,16,(.struct [(62,0),(63,1)]),[.raw (.pointer none),.raw (.pointer none)],false,Unit,(fun _=>[])⟩),
 (66,⟨8,true,64,(.arr 4 65),[.raw (.pointer none),.raw (.pointer none),.raw (.pointer none),.raw (.pointer none),.raw (.pointer none),.raw (.pointer none),.raw (.pointer none),.raw (.pointer none)],false,Unit,(fun _=>[])⟩),
 (68,⟨9,true,72,(.struct [(61,0),(66,1)]),[.raw (.pointer none),.raw (.pointer none),.raw (.pointer none),.raw (.pointer none),.raw (.pointer none),.raw (.pointer none),.raw (.pointer none),.raw (.pointer none),.raw (.pointer none)],false,Unit,(fun _=>[])⟩),
 (71,⟨1,false,8,.ptr,[.raw (.pointer none)],false,Unit,(fun _=>[])⟩),
 (75,⟨1,false,24,(.sl 163),[.nil],false,(List Ch),(bq 9 wE)⟩),
 (78,⟨1,false,8,.ptr,[.raw (.pointer none)],false,Unit,(fun _=>[])⟩),
 (79,⟨1,false,8,.ptr,[.raw (.pointer none)],false,Unit,(fun _=>[])⟩),
 (80,⟨1,false,8,.ptr,[.raw (.pointer none)],false,Unit,(fun _=>[])⟩),
 (81,⟨4,true,32,(.arr 4 80),[.raw (.pointer none),.raw (.pointer none),.raw (.pointer none),.raw (.pointer none)],false,Unit,(fun _=>[])⟩),
 (82,⟨4,true,32,(.arr 4 78),[.raw (.pointer none),.raw (.pointer none),.raw (.pointer none),.raw (.pointer none)],false,Unit,(fun _=>[])⟩),
 (84,⟨9,true,72,(.struct [(79,0),(81,1),(82,5)]),[.raw (.pointer none),.raw (.pointer none),.raw (.pointer none),.raw (.pointer none),.raw (.pointer none),.raw (.pointer none),.raw (.pointer none),.raw (.pointer none),.raw (.pointer none)],false,Unit,(fun _=>[])⟩),
 (87,⟨1,false,24,(.sl 89),[.nil],false,(List (List Fi)),(bq 1 (bq 4 aw))⟩),
 (88,⟨4,true,96,(.arr 4 87),[.nil,.nil,.nil,.nil],false,Unit,(fun _=>[])⟩),
 (89,⟨1,false,24,(.sl 161),[.nil],false,(List Fi),(bq 4 aw)⟩),
 (94,⟨1,false,8,.ptr,[.raw (.pointer none)],false,Unit,(fun _=>[])⟩),
 (95,⟨1,false,24,(.sl 4),[.nil],false,(List Bool),(bq 1 af)⟩),
 (96,⟨4,true,96,(.arr 4 95),[.nil,.nil,.nil,.nil],false,Unit,(fun _=>[])⟩),
 (98,⟨9,true,200,(.struct [(94,0),(96,1),(58,5)]),[.raw (.pointer none),.nil,.nil,.nil,.nil,.nil,.nil,.nil,.nil],false,Unit,(fun _=>[])⟩),
 (100,⟨2,true,24,(.struct [(9,0),(3,1)]),[.str [],.int .i64 0],false,Rf,bg⟩),
 (104,⟨1,false,24,(.sl 22),[.nil],false,(List (List (List UInt8))),(bq 1 (bq 1 encS))⟩),
 (107,⟨1,false,8,.ptr,[.raw (.pointer none)],false,Unit,(fun _=>[])⟩),
 (109,⟨2,true,32,(.struct [(107,0),(33,1)]),[.raw (.pointer none),.nil],false,Unit,(fun _=>[])⟩),
 (111,⟨3,true,40,(.struct [(109,0),(41,2)]),[.raw (.pointer none),.nil,.raw (.pointer none)],false,Unit,(fun _=>[])⟩),
 (126,⟨2,true,40,(.struct [(9,0),(33,1)]),[.str [],.nil],false,Dc,cQ⟩),
 (132,⟨1,false,8,.ptr,[.raw (.pointer none)],false,Unit,(fun _=>[])⟩),
 (133,⟨1,false,24,(.sl 158),[.nil],false,(List Ob),(bq 6 an)⟩),
 (135,⟨1,true,24,(.struct [(133,0)]),[.nil],false,Unit,(fun _=>[])⟩),
 (137,⟨9,true,200,(.struct [(132,0),(58,1),(58,5)]),[.raw (.pointer none),.nil,.nil,.nil,.nil,.nil,.nil,.nil,.nil],false,Unit,(fun _=>[])⟩),
 (138,⟨1,false,24,(.sl 220),[.nil],false,(List Mv),(bq 3 cn)⟩),
 (140,⟨1,true,24,(.struct [(138,0)]),[.nil],false,Unit,(fun _=>[])⟩),
 (141,⟨1,false,24,(.sl 211),[.nil],false,(List It),(bq 5 aG)⟩),
 (143,⟨3,true,40,(.struct [(132,0),(141,1),(3,2)]),[.raw (.pointer none),.nil,.int .i64 0],false,Unit,(fun _=>[])⟩),
 (151,⟨1,false,24,(.sl 153),[.nil],false,(List Rf),(bq 2 bg)⟩),
 (153,⟨2,true,24,(.struct [(9,0),(3,1)]),[.str [],.int .i64 0],false,Rf,bg⟩),
 (156,⟨1,false,24,(.sl 237),[.nil],false,(List aB),(bq 4 cm)⟩),
 (158,⟨6,true,104,(.struct [(3,0),(33,1),(156,2),(3,3),(57,4),(9,5)]),[.int .i64 0,.nil,.nil,.int .i64 0,.nil,.str []],false,Ob,an⟩),
 (161,⟨4,true,40,(.struct [(9,0),(3,1),(3,2),(3,3)]),[.str [],.int .i64 0,.int .i64 0,.int .i64 0],true,Fi,aw⟩),
 (163,⟨9,true,96,(.struct [(9,0),(161,1),(161,5)]),[.str [],.str [],.int .i64 0,.int .i64 0,.int .i64 0,.str [],.int .i64 0,.int .i64 0,.int .i64 0],true,Ch,wE⟩),
 (169,⟨1,true,24,(.struct [(133,0)]),[.nil],false,Unit,(fun _=>[])⟩),
 (172,⟨2,true,24,(.struct [(9,0),(71,1)]),[.str [],.raw (.pointer none)],false,Unit,(fun _=>[])⟩),
 (183,⟨1,false,8,.ptr,[.raw (.pointer none)],false,Unit,(fun _=>[])⟩),
 (184,⟨1,false,24,(.sl 262),[.nil],false,(List Mv),(bq 3 cn)⟩),
 (186,⟨2,true,48,(.struct [(52,0),(184,1)]),[.nil,.nil],false,Unit,(fun _=>[])⟩),
 (187,⟨1,false,24,(.sl 193),[.nil],false,(List It),(bq 5 aG)⟩),
 (189,⟨3,true,40,(.struct [(94,0),(187,1),(3,2)]),[.raw (.pointer none),.nil,.int .i64 0],false,Unit,(fun _=>[])⟩),
 (193,⟨5,true,64,(.struct [(9,0),(33,1),(4,2),(3,3),(3,4)]),[.str [],.ls 1 UInt8 bA [],.bool false,.int .i64 0,.int .i64 0],false,It,aG⟩),
 (211,⟨5,true,64,(.struct [(9,0),(33,1),(4,2),(3,3),(3,4)]),[.str [],.ls 1 UInt8 bA [],.bool false,.int .i64 0,.int .i64 0],false,It,aG⟩),
 (220,⟨3,true,32,(.struct [(9,0),(3,1),(3,2)]),[.str [],.int .i64 0,.int .i64 0],false,Mv,cn⟩),
 (223,⟨1,false,24,(.sl 57),[.nil],false,(List (List Int)),(bq 1 (bq 1 encI))⟩),
 (237,⟨4,true,40,(.struct [(9,0),(3,1),(3,2),(3,3)]),[.str [],.int .i64 0,.int .i64 0,.int .i64 0],true,aB,cm⟩),
 (241,⟨1,false,16,.ifc,[.raw .nilIface],false,Unit,(fun _=>[])⟩),
 (256,⟨3,true,72,(.arr 3 89),[.nil,.nil,.nil],false,(Int×Int×Int),si⟩),
 (262,⟨3,true,32,(.struct [(9,0),(3,1),(3,2)]),[.str [],.int .i64 0,.int .i64 0],false,Mv,cn⟩),
 (266,⟨3,true,48,(.struct [(94,0),(9,1),(223,2)]),[.raw (.pointer none),.str [],.nil],false,Unit,(fun _=>[])⟩),
 (268,⟨1,false,24,(.sl 270),[.nil],false,(List (Int×Int)),(bq 2 iA)⟩),
 (270,⟨2,true,16,(.arr 2 3),[.int .i64 0,.int .i64 0],false,(Int×Int),iA⟩),
 (272,⟨1,false,8,(.int .i64),[.int .i64 0],false,Int,encI⟩),
 (279,⟨1,false,4,(.int .u32),[.int .u32 0],false,Unit,(fun _=>[])⟩),
 (281,⟨1,false,8,(.int .u64),[.int .u64 0],false,Unit,(fun _=>[])⟩),
 (286,⟨1,false,24,(.sl 33),[.nil],false,(List (List UInt8)),(bq 1 (bq 1 bA))⟩),
 (307,⟨4,true,64,(.struct [(94,0),(89,1),(22,2),(3,3)]),[.raw (.pointer none),.nil,.nil,.int .i64 0],false,Unit,(fun _=>[])⟩),
 (315,⟨1,false,8,(.int .u64),[.int .u64 0],false,Unit,(fun _=>[])⟩),
 (322,⟨1,false,24,(.sl 327),[.nil],false,(List (Int×Int)),(bq 2 iA)⟩),
 (324,⟨3,true,24,(.arr 3 3),[.int .i64 0,.int .i64 0,.int .i64 0],false,(Int×Int×Int),si⟩),
 (325,⟨1,false,24,(.sl 324),[.nil],false,(List (Int×Int×Int)),(bq 3 si)⟩),
 (327,⟨2,true,16,(.struct [(3,0),(3,1)]),[.int .i64 0,.int .i64 0],false,(Int×Int),iA⟩),
 (334,⟨1,false,8,(.int .i64),[.int .i64 0],false,Int,encI⟩),
 (337,⟨1,false,8,.ptr,[.raw (.pointer none)],false,Unit,(fun _=>[])⟩),
 (343,⟨1,false,8,.other,[.raw (.pointer none)],false,Unit,(fun _=>[])⟩),
 (345,⟨4,true,64,(.arr 4 9),[.str [],.str [],.str [],.str []],false,Unit,(fun _=>[])⟩),
 (363,⟨3,true,48,(.struct [(9,0),(9,1),(241,2)]),[.str [],.str [],.raw .nilIface],false,Unit,(fun _=>[])⟩),
 (374,⟨1,false,8,.ptr,[.raw (.pointer none)],false,Unit,(fun _=>[])⟩),
 (376,⟨1,true,16,(.struct [(9,0)]),[.str []],false,Unit,(fun _=>[])⟩),
 (386,⟨1,false,24,(.sl 395),[.nil],false,(List (Int×Int)),(bq 2 iA)⟩),
 (395,⟨2,true,16,(.struct [(3,0),(3,1)]),[.int .i64 0,.int .i64 0],false,(Int×Int),iA⟩),
 (401,⟨2,true,2,(.struct [(5,0),(5,1)]),[.int .u8 0,.int .u8 0],false,Unit,(fun _=>[])⟩)]
def tab:Nat→Option TD:=mJ GZ
set_option maxRecDepth 20000 in
theorem tabOk : bm Tryz.prog tab := G0 ⟨ay Tryz.typeInfo2 Tryz.isAgg2 Tryz.underlying2,
 ay Tryz.typeInfo3 Tryz.isAgg3 Tryz.underlying3,
 ay Tryz.typeInfo4 Tryz.isAgg4 Tryz.underlying4,
 ay Tryz.typeInfo5 Tryz.isAgg5 Tryz.underlying5,
 ay Tryz.typeInfo9 Tryz.isAgg9 Tryz.underlying9,
 ay Tryz.typeInfo21 Tryz.isAgg21 Tryz.underlying21,
 ay Tryz.typeInfo22 Tryz.isAgg22 Tryz.underlying22,
 ay Tryz.typeInfo25 Tryz.isAgg25 Tryz.underlying25,
 ay Tryz.typeInfo29 Tryz.isAgg29 ⟨_,Tryz.underlying29,rfl,rfl⟩,
 ay Tryz.typeInfo33 Tryz.isAgg33 Tryz.underlying33,
 ay Tryz.typeInfo39 Tryz.isAgg39 Tryz.underlying39,
 ay Tryz.typeInfo41 Tryz.isAgg41 ⟨_,Tryz.underlying41⟩,
 ay Tryz.typeInfo44 Tryz.isAgg44 ⟨_,Tryz.underlying44,rfl,rfl⟩,
 ay Tryz.typeInfo46 Tryz.isAgg46 ⟨_,Tryz.underlying46,rfl,rfl⟩,
 ay Tryz.typeInfo50 Tryz.isAgg50 Tryz.underlying50,
 ay Tryz.typeInfo52 Tryz.isAgg52 Tryz.underlying52,
 ay Tryz.typeInfo55 Tryz.isAgg55 Tryz.underlying55,
 ay Tryz.typeInfo56 Tryz.isAgg56 Tryz.underlying56,
 ay Tryz.typeInfo57 Tryz.isAgg57 Tryz.underlying57,
 ay Tryz.typeInfo58 Tryz.isAgg58 Tryz.underlying58,
 ay Tryz.typeInfo61 Tryz.isAgg61 ⟨_,Tryz.underlying61⟩,
 ay Tryz.typeInfo62 Tryz.isAgg62 ⟨_,Tryz.underlying62⟩,
 ay Tryz.typeInfo63 Tryz.isAgg63 ⟨_,Tryz.underlying63⟩,
 ay Tryz.typeInfo65 Tryz.isAgg65 ⟨_,Tryz.underlying65,rfl,rfl⟩,
 ay Tryz.typeInfo66 Tryz.isAgg66 Tryz.underlying66,
 ay Tryz.typeInfo68 Tryz.isAgg68 ⟨_,Tryz.underlying68,rfl,rfl⟩,
 ay Tryz.typeInfo71 Tryz.isAgg71 ⟨_,Tryz.underlying71⟩,
 ay Tryz.typeInfo75 Tryz.isAgg75 Tryz.underlying75,
 ay Tryz.typeInfo78 Tryz.isAgg78 ⟨_,Tryz.underlying78⟩,
 ay Tryz.typeInfo79 Tryz.isAgg79 ⟨_,Tryz.underlying79⟩,
 ay Tryz.typeInfo80 Tryz.isAgg80 ⟨_,Tryz.underlying80⟩,
 ay Tryz.typeInfo81 Tryz.isAgg81 Tryz.underlying81,
 ay Tryz.typeInfo82 Tryz.isAgg82 Tryz.underlying82,
 ay Tryz.typeInfo84 Tryz.isAgg84 ⟨_,Tryz.underlying84,rfl,rfl⟩,
 ay Tryz.typeInfo87 Tryz.isAgg87 Tryz.underlying87,
 ay Tryz.typeInfo88 Tryz.isAgg88 Tryz.underlying88,
 ay Tryz.typeInfo89 Tryz.isAgg89 Tryz.underlying89,
 ay Tryz.typeInfo94 Tryz.isAgg94 ⟨_,Tryz.underlying94⟩,
 ay Tryz.typeInfo95 Tryz.isAgg95 Tryz.underlying95,
 ay Tryz.typeInfo96 Tryz.isAgg96 Tryz.underlying96,
 ay Tryz.typeInfo98 Tryz.isAgg98 ⟨_,Tryz.underlying98,rfl,rfl⟩,
 ay Tryz.typeInfo100 Tryz.isAgg100 ⟨_,Tryz.underlying100,rfl,rfl⟩,
 ay Tryz.typeInfo104 Tryz.isAgg104 Tryz.underlying104,
 ay Tryz.typeInfo107 Tryz.isAgg107 ⟨_,Tryz.underlying107⟩,
 ay Tryz.typeInfo109 Tryz.isAgg109 ⟨_,Tryz.underlying109,rfl,rfl⟩,
 ay Tryz.typeInfo111 Tryz.isAgg111 ⟨_,Tryz.underlying111,rfl,rfl⟩,
 ay Tryz.typeInfo126 Tryz.isAgg126 ⟨_,Tryz.underlying126,rfl,rfl⟩,
 ay Tryz.typeInfo132 Tryz.isAgg132 ⟨_,Tryz.underlying132⟩,
 ay Tryz.typeInfo133 Tryz.isAgg133 Tryz.underlying133,
 ay Tryz.typeInfo135 Tryz.isAgg135 ⟨_,Tryz.underlying135,rfl,rfl⟩,
 ay Tryz.typeInfo137 Tryz.isAgg137 ⟨_,Tryz.underlying137,rfl,rfl⟩,
 ay Tryz.typeInfo138 Tryz.isAgg138 Tryz.underlying138,
 ay Tryz.typeInfo140 Tryz.isAgg140 ⟨_,Tryz.underlying140,rfl,rfl⟩,
 ay Tryz.typeInfo141 Tryz.isAgg141 Tryz.underlying141,
 ay Tryz.typeInfo143 Tryz.isAgg143 ⟨_,Tryz.underlying143,rfl,rfl⟩,
 ay Tryz.typeInfo151 Tryz.isAgg151 Tryz.underlying151,
 ay Tryz.typeInfo153 Tryz.isAgg153 ⟨_,Tryz.underlying153,rfl,rfl⟩,
 ay Tryz.typeInfo156 Tryz.isAgg156 Tryz.underlying156,
 ay Tryz.typeInfo158 Tryz.isAgg158 ⟨_,Tryz.underlying158,rfl,rfl⟩,
 ay Tryz.typeInfo161 Tryz.isAgg161 ⟨_,Tryz.underlying161,rfl,rfl⟩ (fun _=>⟨by kernel_rfl,by exact(cj.struct (by kernel_rfl) (by kernel_rfl) (by rw[nM Tryz.underlying161];exact⟨false,[.str []],_,rfl,by decide,rfl,Tryz.isAgg9,ez Tryz.typeInfo9 rfl,by decide,(cj.str Tryz.underlying9),⟨false,[.int .i64 0],_,rfl,by decide,rfl,Tryz.isAgg3,ez Tryz.typeInfo3 rfl,by decide,(cj.int Tryz.underlying3),⟨false,[.int .i64 0],_,rfl,by decide,rfl,Tryz.isAgg3,ez Tryz.typeInfo3 rfl,by decide,(cj.int Tryz.underlying3),⟨false,[.int .i64 0],_,rfl,by decide,rfl,Tryz.isAgg3,ez Tryz.typeInfo3 rfl,by decide,(cj.int Tryz.underlying3),rfl⟩⟩⟩⟩))⟩),
 ay Tryz.typeInfo163 Tryz.isAgg163 ⟨_,Tryz.underlying163,rfl,rfl⟩ (fun _=>⟨by kernel_rfl,by exact(cj.struct (by kernel_rfl) (by kernel_rfl) (by rw[nM Tryz.underlying163];exact⟨false,[.str []],_,rfl,by decide,rfl,Tryz.isAgg9,ez Tryz.typeInfo9 rfl,by decide,(cj.str Tryz.underlying9),⟨true,[.str [],.int .i64 0,.int .i64 0,.int .i64 0],_,rfl,by decide,rfl,Tryz.isAgg161,ez Tryz.typeInfo161 rfl,by decide,(cj.struct (by kernel_rfl) (by kernel_rfl) (by rw[nM Tryz.underlying161];exact⟨false,[.str []],_,rfl,by decide,rfl,Tryz.isAgg9,ez Tryz.typeInfo9 rfl,by decide,(cj.str Tryz.underlying9),⟨false,[.int .i64 0],_,rfl,by decide,rfl,Tryz.isAgg3,ez Tryz.typeInfo3 rfl,by decide,(cj.int Tryz.underlying3),⟨false,[.int .i64 0],_,rfl,by decide,rfl,Tryz.isAgg3,ez Tryz.typeInfo3 rfl,by decide,(cj.int Tryz.underlying3),⟨false,[.int .i64 0],_,rfl,by decide,rfl,Tryz.isAgg3,ez Tryz.typeInfo3 rfl,by decide,(cj.int Tryz.underlying3),rfl⟩⟩⟩⟩)),⟨true,[.str [],.int .i64 0,.int .i64 0,.int .i64 0],_,rfl,by decide,rfl,Tryz.isAgg161,ez Tryz.typeInfo161 rfl,by decide,(cj.struct (by kernel_rfl) (by kernel_rfl) (by rw[nM Tryz.underlying161];exact⟨false,[.str []],_,rfl,by decide,rfl,Tryz.isAgg9,ez Tryz.typeInfo9 rfl,by decide,(cj.str Tryz.underlying9),⟨false,[.int .i64 0],_,rfl,by decide,rfl,Tryz.isAgg3,ez Tryz.typeInfo3 rfl,by decide,(cj.int Tryz.underlying3),⟨false,[.int .i64 0],_,rfl,by decide,rfl,Tryz.isAgg3,ez Tryz.typeInfo3 rfl,by decide,(cj.int Tryz.underlying3),⟨false,[.int .i64 0],_,rfl,by decide,rfl,Tryz.isAgg3,ez Tryz.typeInfo3 rfl,by decide,(cj.int Tryz.underlying3),rfl⟩⟩⟩⟩)),rfl⟩⟩⟩))⟩),
 ay Tryz.typeInfo169 Tryz.isAgg169 ⟨_,Tryz.underlying169,rfl,rfl⟩,
 ay Tryz.typeInfo172 Tryz.isAgg172 ⟨_,Tryz.underlying172,rfl,rfl⟩,
 ay Tryz.typeInfo183 Tryz.isAgg183 ⟨_,Tryz.underlying183⟩,
 ay Tryz.typeInfo184 Tryz.isAgg184 Tryz.underlying184,
 ay Tryz.typeInfo186 Tryz.isAgg186 ⟨_,Tryz.underlying186,rfl,rfl⟩,
 ay Tryz.typeInfo187 Tryz.isAgg187 Tryz.underlying187,
 ay Tryz.typeInfo189 Tryz.isAgg189 ⟨_,Tryz.underlying189,rfl,rfl⟩,
 ay Tryz.typeInfo193 Tryz.isAgg193 ⟨_,Tryz.underlying193,rfl,rfl⟩,
 ay Tryz.typeInfo211 Tryz.isAgg211 ⟨_,Tryz.underlying211,rfl,rfl⟩,
 ay Tryz.typeInfo220 Tryz.isAgg220 ⟨_,Tryz.underlying220,rfl,rfl⟩,
 ay Tryz.typeInfo223 Tryz.isAgg223 Tryz.underlying223,
 ay Tryz.typeInfo237 Tryz.isAgg237 ⟨_,Tryz.underlying237,rfl,rfl⟩ (fun _=>⟨by kernel_rfl,by exact(cj.struct (by kernel_rfl) (by kernel_rfl) (by rw[nM Tryz.underlying237];exact⟨false,[.str []],_,rfl,by decide,rfl,Tryz.isAgg9,ez Tryz.typeInfo9 rfl,by decide,(cj.str Tryz.underlying9),⟨false,[.int .i64 0],_,rfl,by decide,rfl,Tryz.isAgg3,ez Tryz.typeInfo3 rfl,by decide,(cj.int Tryz.underlying3),⟨false,[.int .i64 0],_,rfl,by decide,rfl,Tryz.isAgg3,ez Tryz.typeInfo3 rfl,by decide,(cj.int Tryz.underlying3),⟨false,[.int .i64 0],_,rfl,by decide,rfl,Tryz.isAgg3,ez Tryz.typeInfo3 rfl,by decide,(cj.int Tryz.underlying3),rfl⟩⟩⟩⟩))⟩),
 ay Tryz.typeInfo241 Tryz.isAgg241 ⟨_,Tryz.underlying241⟩,
 ay Tryz.typeInfo256 Tryz.isAgg256 Tryz.underlying256,
 ay Tryz.typeInfo262 Tryz.isAgg262 ⟨_,Tryz.underlying262,rfl,rfl⟩,
 ay Tryz.typeInfo266 Tryz.isAgg266 ⟨_,Tryz.underlying266,rfl,rfl⟩,
 ay Tryz.typeInfo268 Tryz.isAgg268 Tryz.underlying268,
 ay Tryz.typeInfo270 Tryz.isAgg270 Tryz.underlying270,
 ay Tryz.typeInfo272 Tryz.isAgg272 Tryz.underlying272,
 ay Tryz.typeInfo279 Tryz.isAgg279 Tryz.underlying279,
 ay Tryz.typeInfo281 Tryz.isAgg281 Tryz.underlying281,
 ay Tryz.typeInfo286 Tryz.isAgg286 Tryz.underlying286,
 ay Tryz.typeInfo307 Tryz.isAgg307 ⟨_,Tryz.underlying307,rfl,rfl⟩,
 ay Tryz.typeInfo315 Tryz.isAgg315 Tryz.underlying315,
 ay Tryz.typeInfo322 Tryz.isAgg322 Tryz.underlying322,
 ay Tryz.typeInfo324 Tryz.isAgg324 Tryz.underlying324,
 ay Tryz.typeInfo325 Tryz.isAgg325 Tryz.underlying325,
 ay Tryz.typeInfo327 Tryz.isAgg327 ⟨_,Tryz.underlying327,rfl,rfl⟩,
 ay Tryz.typeInfo334 Tryz.isAgg334 Tryz.underlying334,
 ay Tryz.typeInfo337 Tryz.isAgg337 ⟨_,Tryz.underlying337⟩,
 ay Tryz.typeInfo343 Tryz.isAgg343 trivial,
 ay Tryz.typeInfo345 Tryz.isAgg345 Tryz.underlying345,
 ay Tryz.typeInfo363 Tryz.isAgg363 ⟨_,Tryz.underlying363,rfl,rfl⟩,
 ay Tryz.typeInfo374 Tryz.isAgg374 ⟨_,Tryz.underlying374⟩,
 ay Tryz.typeInfo376 Tryz.isAgg376 ⟨_,Tryz.underlying376,rfl,rfl⟩,
 ay Tryz.typeInfo386 Tryz.isAgg386 Tryz.underlying386,
 ay Tryz.typeInfo395 Tryz.isAgg395 ⟨_,Tryz.underlying395,rfl,rfl⟩,
 ay Tryz.typeInfo401 Tryz.isAgg401 ⟨_,Tryz.underlying401,rfl,rfl⟩,
 trivial⟩
end Go.Proofs.YtpechfcbnoggfaaGreatDoor
end
section
namespace Go.Nest
open Go Go.AM Go.Proofs
open Go.Proofs.YtpechfcbnoggfaaGreatDoor (tab tabOk)
set_option maxRecDepth 4000
def eX(c:UInt8):Bool:=decide (c.toNat≤32)||decide (c.toNat=47)||decide (127≤c.toNat)
def bL(l:List UInt8):Int:=if l=[]∨l=[46]∨l=[46,46]∨l.any eX then 2 else if 20<l.length then 4 else 0
def shown(c:UInt8):Bool:=decide (32≤c.toNat)&&decide (c.toNat<127)
theorem gq{α:Type}{p:α→Bool}{l:List α}{i:Nat}(h:i<l.length)(h1:(l.take i).any p=false)(h2:p l[i]=false):(l.take (i+1)).any p=false:=by
 rw[List.take_succ_eq_append_getElem h,List.any_append,h1];simp[h2]
theorem nv{α:Type}{p:α→Bool}{l:List α}{i:Nat}(h:i<l.length)(h2:p l[i]=true):l.any p=true:=
 List.any_eq_true.2 ⟨_,List.getElem_mem h,h2⟩
theorem qi(l:List UInt8):ae Tryz.prog 214 [.c (.str l)] [] (Rt (.c (.int .i64 (bL l))) []):=by
 refine ao (n:=39) (n0:=0) tabOk Tryz.call214 Tryz.func214 ?_;intro hb;have hb:l.length≤9223372036854775807:=hb.1.1
 have bad:∀{i:Nat} (h:i<l.length),eX l[i]=true→(2:Int)=bL l:=fun h h2=>by
  unfold bL;rw[if_pos (.inr (.inr (.inr (nv h h2))))]
 (conv=>whnf);refine dec (fun(h:l=[])=>?_) (fun(h:¬l=[])=>?_)
 ·(conv=>whnf);refine dB ?_ rfl;simp[bL,h]
 (conv=>whnf);refine dec (fun(h2:l=[46])=>?_) (fun(h2:¬l=[46])=>?_)
 ·(conv=>whnf);refine dB ?_ rfl;simp[bL,h2]
 (conv=>whnf);refine dec (fun(h3:l=[46,46])=>?_) (fun(h3:¬l=[46,46])=>?_)
 ·(conv=>whnf);refine dB ?_ rfl;simp[bL,h3]
 (conv=>whnf);refine lp Nat (fun i=>⟨[(0,.c (.str l)),(15,.c (.int .i64 l.length)),(16,.c (.int .i64 i))],[]⟩) (fun i=>i≤l.length∧(l.take i).any eX=false) (fun i=>l.length-i) 0 [] [] ?_ ?_ (fun i hi=>?_)
 ·simp
 ·repeat' first|exact trivial|exact rfl|refine And.intro ?_ ?_
 (conv=>whnf);refine dec (fun h4=>?_) (fun h4=>?_)
 ·have hlt:i<l.length:=by omega
  (conv=>whnf);refine⟨i,l[i],rfl,List.getElem?_eq_getElem hlt,?_⟩;(conv=>whnf);refine dec (fun h5=>?_) (fun h5=>?_)
  ·(conv=>whnf);refine dB ?_ rfl;rw[←bad hlt (by simp[eX];omega)]
  (conv=>whnf);refine⟨i,l[i],rfl,List.getElem?_eq_getElem hlt,?_⟩;(conv=>whnf);refine dec (fun h6=>?_) (fun h6=>?_)
  ·(conv=>whnf);refine dB ?_ rfl;rw[←bad hlt (by simp[eX];omega)]
  (conv=>whnf);refine⟨i,l[i],rfl,List.getElem?_eq_getElem hlt,?_⟩;(conv=>whnf);refine dec (fun h7=>?_) (fun h7=>?_)
  ·(conv=>whnf);refine dB ?_ rfl;rw[←bad hlt (by simp[eX];omega)]
  (conv=>whnf);refine⟨i64 (by omega) (by omega),?_⟩;(conv=>whnf);refine ag (i+1) [] [] ⟨hlt,gq hlt hi.2 (by simp[eX];omega)⟩ (by simp only[];omega) ?_;repeat' first|exact trivial|exact rfl|refine And.intro ?_ ?_
 ·obtain rfl:i=l.length:=by omega
  have ha:l.any eX=false:=by simpa using hi.2
  (conv=>whnf);refine dec (fun h5=>?_) (fun h5=>?_)
  ·(conv=>whnf);refine dB ?_ rfl;unfold bL;rw[if_neg (by simp[h,h2,h3,ha]),if_pos (by omega)]
  ·(conv=>whnf);refine dB ?_ rfl;unfold bL;rw[if_neg (by simp[h,h2,h3,ha]),if_neg (by omega)]
end Go.Nest
end
section
namespace Go.Nest
open Go Go.AM Go.Proofs
open Go.Proofs.YtpechfcbnoggfaaGreatDoor (tab tabOk)
set_option maxRecDepth 4000
theorem HU(l:List UInt8):ae Tryz.prog 235 [.c (.str l)] [] (Rt (.c (.int .i64 (bL l))) []):=by
 refine ao (n:=39) (n0:=0) tabOk Tryz.call235 Tryz.func235 ?_;intro hb;have hb:l.length≤9223372036854775807:=hb.1.1
 have bad:∀{i:Nat} (h:i<l.length),eX l[i]=true→(2:Int)=bL l:=fun h h2=>by
  unfold bL;rw[if_pos (.inr (.inr (.inr (nv h h2))))]
 (conv=>whnf);refine dec (fun(h0:l=[])=>?_) (fun(h0:¬l=[])=>?_)
 ·(conv=>whnf);refine dB ?_ rfl;simp[bL,h0]
 (conv=>whnf);refine dec (fun(h2:l=[46])=>?_) (fun(h2:¬l=[46])=>?_)
 ·(conv=>whnf);refine dB ?_ rfl;simp[bL,h2]
 (conv=>whnf);refine dec (fun(h3:l=[46,46])=>?_) (fun(h3:¬l=[46,46])=>?_)
 ·(conv=>whnf);refine dB ?_ rfl;simp[bL,h3]
 (conv=>whnf);refine lp Nat (fun i=>⟨[(0,.c (.str l)),(3,.c (.int .i64 i))],[]⟩) (fun i=>i≤l.length∧(l.take i).any eX=false) (fun i=>l.length-i) 0 [] [] ?_ ?_ (fun i hi=>?_)
 ·simp
 ·repeat' first|exact trivial|exact rfl|refine And.intro ?_ ?_
 (conv=>whnf);refine dec (fun h4=>?_) (fun h4=>?_)
 ·have hlt:i<l.length:=by omega
  repeat'((conv=>whnf);first|(refine dec (fun h=>?_) (fun h=>?_)<;>try contradiction)|refine⟨i64 (by omega) (by omega),?_⟩|refine⟨_,_,rfl,List.getElem?_eq_getElem (by omega),?_⟩|refine aI ?_|fail)
  ·rw[←bad hlt (by simp[eX];omega)]
  ·rw[←bad hlt (by simp[eX];omega)]
  ·rw[←bad hlt (by simp[eX];omega)]
  ·refine ag (i+1) [] [] ⟨hlt,gq hlt hi.2 (by simp[eX];omega)⟩ (by simp only[];omega) ?_;repeat' first|exact trivial|exact rfl|refine And.intro ?_ ?_
 ·obtain rfl:i=l.length:=by omega
  have ha:l.any eX=false:=by simpa using hi.2
  repeat'((conv=>whnf);first|(refine dec (fun h=>?_) (fun h=>?_)<;>try contradiction)|refine aI ?_|fail)
  ·unfold bL;rw[if_neg (by simp[h0,h2,h3,ha]),if_pos (by omega)]
  ·unfold bL;rw[if_neg (by simp[h0,h2,h3,ha]),if_neg (by omega)]
theorem uJ(l:List UInt8):ae Tryz.prog 317 [.c (.str l)] [] (Rt (.c (.bool (l.all shown))) []):=by
 refine ao (n:=20) (n0:=0) tabOk Tryz.call317 Tryz.func317 ?_;intro hb;have hb:l.length≤9223372036854775807:=hb.1.1;(conv=>whnf);refine lp Nat (fun i=>⟨[(0,.c (.str l)),(5,.c (.int .i64 l.length)),(6,.c (.int .i64 i))],[]⟩) (fun i=>i≤l.length∧(l.take i).all shown=true) (fun i=>l.length-i) 0 [] [] ?_ ?_ (fun i hi=>?_)
 ·simp
 ·repeat' first|exact trivial|exact rfl|refine And.intro ?_ ?_
 have bad:∀(h:i<l.length),shown l[i]=false→false=l.all shown:=fun h h2=>by
  symm;rw[Bool.eq_false_iff,Ne,List.all_eq_true];intro h3;rw[h3 _ (List.getElem_mem h)]at h2;cases h2
 (conv=>whnf);refine dec (fun h4=>?_) (fun h4=>?_)
 ·have hlt:i<l.length:=by omega
  repeat'((conv=>whnf);first|(refine dec (fun h=>?_) (fun h=>?_)<;>try contradiction)|refine⟨i64 (by omega) (by omega),?_⟩|refine⟨_,_,rfl,List.getElem?_eq_getElem (by omega),?_⟩|refine aC ?_|fail)
  ·rw[←bad hlt (by simp[shown];omega)]
  ·rw[←bad hlt (by simp[shown];omega)]
  ·refine ag (i+1) [] [] ⟨hlt,?_⟩ (by simp only[];omega) ?_
   ·rw[List.take_succ_eq_append_getElem hlt,List.all_append,hi.2];simp[shown];omega
   repeat' first|exact trivial|exact rfl|refine And.intro ?_ ?_
 ·obtain rfl:i=l.length:=by omega
  have ha:l.all shown=true:=by simpa using hi.2
  repeat'((conv=>whnf);first|refine aC ?_|fail)
  rw[ha]
end Go.Nest
end
section
namespace Go.Nest
open Go Go.AM Go.Proofs
theorem qj{α:Type}[DecidableEq α]{l m:List α}{i:Nat}(h:i<l.length)(h':i<m.length)(hne:¬l[i]=m[i]):false=decide (l=m):=by
 symm;rw[decide_eq_false_iff_not];intro e;subst e;exact hne rfl
theorem oP{α:Type}{l m:List α}{i:Nat}(h:i<l.length)(h':i<m.length)(ht:l.take i=m.take i)(he:l[i]=m[i]):l.take (i+1)=m.take (i+1):=by
 rw[List.take_succ_eq_append_getElem h,List.take_succ_eq_append_getElem h',ht,he]
theorem qV{α:Type}[DecidableEq α]{l m:List α}{i:Nat}(h:l.length≤i)(hl:l.length=m.length)(ht:l.take i=m.take i):true=decide (l=m):=by
 symm;rw[decide_eq_true_iff];rwa[List.take_of_length_le h,List.take_of_length_le (hl▸h)]at ht
theorem qm{α:Type}[DecidableEq α]{l m:List α}(h:¬(l.length:Int)=m.length):false=decide (l=m):=by
 symm;rw[decide_eq_false_iff_not];intro e;subst e;exact h rfl
theorem vJ{a b:UInt8}:(a.toNat:Int)=b.toNat↔a=b:=by rw[Int.natCast_inj];exact UInt8.toNat_inj
theorem wI{a b:aB}:dI (cm a) (cm b)↔a=b:=by
 cases a;cases b;simp[cm,dI,kc]
end Go.Nest
end
section
namespace Go.Nest
open Go Go.AM Go.Proofs
open Go.Proofs.YtpechfcbnoggfaaGreatDoor (tab tabOk)
set_option maxRecDepth 4000
theorem Gk(a b:List Int):ae Tryz.prog 30 [.c (.bs 1 Int encI a),.c (.bs 1 Int encI b)] [] (Rt (.c (.bool (decide (a=b)))) []):=by
 refine ao (n:=26) (n0:=0) tabOk Tryz.call30 Tryz.func30 ?_;intro hb;have hb:a.length≤9223372036854775807:=hb.1.1;repeat'((conv=>whnf);first|(refine av (fun h=>?_) (fun h=>?_)<;>try contradiction)|refine aC ?_|fail)
 ·exact qm h
 (conv=>whnf);have hl:a.length=b.length:=by omega
 refine lp Nat (fun i=>⟨[(0,.c (.bs 1 Int encI a)),(1,.c (.bs 1 Int encI b)),(5,.c (.int .i64 i))],[]⟩) (fun i=>i≤a.length∧a.take i=b.take i) (fun i=>a.length-i) 0 [] [] ?_ ?_ (fun i hi=>?_)
 ·simp
 ·repeat' first|exact trivial|exact rfl|refine And.intro ?_ ?_
 (conv=>whnf);refine dec (fun h4=>?_) (fun h4=>?_)
 ·have hlt:i<a.length:=by omega
  have hlt':i<b.length:=by omega
  (conv=>whnf);refine⟨false,.grow,(.l [0,1,2,3,4,5,6,7,8]),by kernel_rfl,.inl ?_⟩;repeat'((conv=>whnf);first|(refine av (fun h=>?_) (fun h=>?_)<;>try contradiction)|refine⟨i64 (by omega) (by omega),?_⟩|refine⟨_,_,rfl,List.getElem?_eq_getElem (by omega),?_⟩|refine aC ?_|fail)
  ·exact qj hlt hlt' (fun e=>h ((Iff.rfl).2 e))
  ·refine ag (i+1) [] [] ⟨hlt,oP hlt hlt' hi.2 ((Iff.rfl).1 h)⟩ (by simp only[];omega) ?_;repeat' first|exact trivial|exact rfl|refine And.intro ?_ ?_
 ·repeat'((conv=>whnf);first|refine aC ?_|fail)
  exact qV (by omega) hl hi.2
theorem Cm(a b:List Int):ae Tryz.prog 321 [.c (.bs 1 Int encI a),.c (.bs 1 Int encI b)] [] (Rt (.c (.bool (decide (a=b)))) []):=by
 refine ao (n:=26) (n0:=0) tabOk Tryz.call321 Tryz.func321 ?_;intro hb;have hb:a.length≤9223372036854775807:=hb.1.1;repeat'((conv=>whnf);first|(refine av (fun h=>?_) (fun h=>?_)<;>try contradiction)|refine aC ?_|fail)
 ·exact qm h
 (conv=>whnf);have hl:a.length=b.length:=by omega
 refine lp Nat (fun i=>⟨[(0,.c (.bs 1 Int encI a)),(1,.c (.bs 1 Int encI b)),(12,.c (.int .i64 a.length)),(13,.c (.int .i64 i))],[]⟩) (fun i=>i≤a.length∧a.take i=b.take i) (fun i=>a.length-i) 0 [] [] ?_ ?_ (fun i hi=>?_)
 ·simp
 ·repeat' first|exact trivial|exact rfl|refine And.intro ?_ ?_
 (conv=>whnf);refine dec (fun h4=>?_) (fun h4=>?_)
 ·have hlt:i<a.length:=by omega
  have hlt':i<b.length:=by omega
  (conv=>whnf);refine⟨false,.grow,(.l [0,1,2,3,4,5,6,7,8]),by kernel_rfl,.inl ?_⟩;repeat'((conv=>whnf);first|(refine av (fun h=>?_) (fun h=>?_)<;>try contradiction)|refine⟨i64 (by omega) (by omega),?_⟩|refine⟨_,_,rfl,List.getElem?_eq_getElem (by omega),?_⟩|refine aC ?_|fail)
  ·exact qj hlt hlt' (fun e=>h ((Iff.rfl).2 e))
  ·refine ag (i+1) [] [] ⟨hlt,oP hlt hlt' hi.2 ((Iff.rfl).1 h)⟩ (by simp only[];omega) ?_;repeat' first|exact trivial|exact rfl|refine And.intro ?_ ?_
 ·repeat'((conv=>whnf);first|refine aC ?_|fail)
  exact qV (by omega) hl hi.2
theorem Cg(a b:List UInt8):ae Tryz.prog 319 [.c (.bs 1 UInt8 bA a),.c (.bs 1 UInt8 bA b)] [] (Rt (.c (.bool (decide (a=b)))) []):=by
 refine ao (n:=26) (n0:=0) tabOk Tryz.call319 Tryz.func319 ?_;intro hb;have hb:a.length≤9223372036854775807:=hb.1.1;repeat'((conv=>whnf);first|(refine av (fun h=>?_) (fun h=>?_)<;>try contradiction)|refine aC ?_|fail)
 ·exact qm h
 (conv=>whnf);have hl:a.length=b.length:=by omega
 refine lp Nat (fun i=>⟨[(0,.c (.bs 1 UInt8 bA a)),(1,.c (.bs 1 UInt8 bA b)),(12,.c (.int .i64 a.length)),(13,.c (.int .i64 i))],[]⟩) (fun i=>i≤a.length∧a.take i=b.take i) (fun i=>a.length-i) 0 [] [] ?_ ?_ (fun i hi=>?_)
 ·simp
 ·repeat' first|exact trivial|exact rfl|refine And.intro ?_ ?_
 (conv=>whnf);refine dec (fun h4=>?_) (fun h4=>?_)
 ·have hlt:i<a.length:=by omega
  have hlt':i<b.length:=by omega
  (conv=>whnf);refine⟨false,.grow,(.l [0,1,2,3,4,5,6,7,8]),by kernel_rfl,.inl ?_⟩;repeat'((conv=>whnf);first|(refine av (fun h=>?_) (fun h=>?_)<;>try contradiction)|refine⟨i64 (by omega) (by omega),?_⟩|refine⟨_,_,rfl,List.getElem?_eq_getElem (by omega),?_⟩|refine aC ?_|fail)
  ·exact qj hlt hlt' (fun e=>h ((vJ).2 e))
  ·refine ag (i+1) [] [] ⟨hlt,oP hlt hlt' hi.2 ((vJ).1 h)⟩ (by simp only[];omega) ?_;repeat' first|exact trivial|exact rfl|refine And.intro ?_ ?_
 ·repeat'((conv=>whnf);first|refine aC ?_|fail)
  exact qV (by omega) hl hi.2
theorem Ci(a b:List aB):ae Tryz.prog 320 [.c (.bs 4 aB cm a),.c (.bs 4 aB cm b)] [] (Rt (.c (.bool (decide (a=b)))) []):=by
 refine ao (n:=26) (n0:=0) tabOk Tryz.call320 Tryz.func320 ?_;intro hb;have hb:a.length≤9223372036854775807:=hb.1.1;repeat'((conv=>whnf);first|(refine av (fun h=>?_) (fun h=>?_)<;>try contradiction)|refine aC ?_|fail)
 ·exact qm h
 (conv=>whnf);have hl:a.length=b.length:=by omega
 refine lp Nat (fun i=>⟨[(0,.c (.bs 4 aB cm a)),(1,.c (.bs 4 aB cm b)),(12,.c (.int .i64 a.length)),(13,.c (.int .i64 i))],[]⟩) (fun i=>i≤a.length∧a.take i=b.take i) (fun i=>a.length-i) 0 [] [] ?_ ?_ (fun i hi=>?_)
 ·simp
 ·repeat' first|exact trivial|exact rfl|refine And.intro ?_ ?_
 (conv=>whnf);refine dec (fun h4=>?_) (fun h4=>?_)
 ·have hlt:i<a.length:=by omega
  have hlt':i<b.length:=by omega
  (conv=>whnf);refine⟨false,.grow,(.l [0,1,2,3,4,5,6,7,8]),by kernel_rfl,.inl ?_⟩;repeat'((conv=>whnf);first|(refine av (fun h=>?_) (fun h=>?_)<;>try contradiction)|refine⟨i64 (by omega) (by omega),?_⟩|refine⟨_,_,rfl,List.getElem?_eq_getElem (by omega),?_⟩|refine aC ?_|fail)
  ·exact qj hlt hlt' (fun e=>h ((wI).2 e))
  ·refine ag (i+1) [] [] ⟨hlt,oP hlt hlt' hi.2 ((wI).1 h)⟩ (by simp only[];omega) ?_;repeat' first|exact trivial|exact rfl|refine And.intro ?_ ?_
 ·repeat'((conv=>whnf);first|refine aC ?_|fail)
  exact qV (by omega) hl hi.2
theorem Gi(a b:List UInt8):ae Tryz.prog 18 [.c (.bs 1 UInt8 bA a),.c (.bs 1 UInt8 bA b)] [] (Rt (.c (.bool (decide (a=b)))) []):=by
 refine ao (n:=10) (n0:=0) tabOk Tryz.call18 Tryz.func18 ?_;intro hb;(conv=>whnf);refine⟨a,rfl,?_⟩;(conv=>whnf);refine⟨b,rfl,?_⟩;(conv=>whnf);exact dB rfl rfl
theorem rZ(l:List UInt8)(hl:l.length*1≤140737488355328):ae Tryz.prog 118 [.c (.bs 1 UInt8 bA l)] [] (Rt (.c (.rw 0)) [.row 1 UInt8 bA l]):=by
 refine ao (n:=8) (n0:=0) tabOk Tryz.call118 Tryz.func118 ?_;intro hb;(conv=>whnf);intro q hq;(conv=>whnf);refine aO (fun h=>?_) (fun h=>?_)
 ·obtain rfl:=hq h;(conv=>whnf);exact rx [] [.new]
 ·(conv=>whnf);refine⟨[],rfl,?_⟩;(conv=>whnf);refine⟨_,_,rfl,rfl,(by simp only[List.length_append,List.length_cons,List.length_nil];omega),?_⟩;(conv=>whnf);exact rx [] [.same 1]
theorem Be(l:List aB)(hl:l.length*40≤140737488355328):ae Tryz.prog 296 [.c (.bs 4 aB cm l)] [] (Rt (.c (.rw 0)) [.row 4 aB cm l]):=by
 refine ao (n:=8) (n0:=0) tabOk Tryz.call296 Tryz.func296 ?_;intro hb;(conv=>whnf);intro q hq;(conv=>whnf);refine aO (fun h=>?_) (fun h=>?_)
 ·obtain rfl:=hq h;(conv=>whnf);exact rx [] [.new]
 ·(conv=>whnf);refine⟨[],rfl,?_⟩;(conv=>whnf);refine⟨_,_,rfl,rfl,(by simp only[List.length_append,List.length_cons,List.length_nil];omega),?_⟩;(conv=>whnf);exact rx [] [.same 1]
theorem pq(l:List Int)(hl:l.length*8≤140737488355328):ae Tryz.prog 102 [.c (.bs 1 Int encI l)] [] (Rt (.c (.rw 0)) [.row 1 Int encI l]):=by
 refine ao (n:=8) (n0:=0) tabOk Tryz.call102 Tryz.func102 ?_;intro hb;(conv=>whnf);intro q hq;(conv=>whnf);refine aO (fun h=>?_) (fun h=>?_)
 ·obtain rfl:=hq h;(conv=>whnf);exact rx [] [.new]
 ·(conv=>whnf);refine⟨[],rfl,?_⟩;(conv=>whnf);refine⟨_,_,rfl,rfl,(by simp only[List.length_append,List.length_cons,List.length_nil];omega),?_⟩;(conv=>whnf);exact rx [] [.same 1]
end Go.Nest
end
section
namespace Go.Nest
open Go Go.AM Go.Proofs
open Go.Proofs.YtpechfcbnoggfaaGreatDoor (tab tabOk)
set_option maxRecDepth 4000
def fV(prev:Option (List UInt8))(e:aB):Int:=
 if bL e.name≠0 then bL e.name else if e.mode<1∨3<e.mode then 6 else if e.id<0∨e.au<0∨4≤e.au then 1 else if e.mode≠3∧e.au≠0 then 7
 else match prev with
  |some p=>if Op.bytesLess p e.name=true then 0 else 8
  |none=>0
def dZ:Option (List UInt8)→List aB→Int
 |_,[]=>0
 |prev,e::r=>if fV prev e=0 then dZ (some e.name) r else fV prev e
def gZ(l:List aB):Nat→Option (List UInt8)
 |0=>none
 |i+1=>(l[i]?).map (·.name)
def lP(l:List aB):Int:=if 60<l.length then 5 else dZ none l
theorem Ce{l:List aB}{i:Nat}(h:i<l.length)(hi:dZ none l=dZ (gZ l i) (l.drop i)):dZ none l=if fV (gZ l i) l[i]=0 then dZ (gZ l (i+1)) (l.drop (i+1))else fV (gZ l i) l[i]:=by
 rw[hi,List.drop_eq_getElem_cons h];have:gZ l (i+1)=some l[i].name:=by simp[gZ,h]
 rw[this,dZ]
theorem Fs{l:List aB}{i:Nat}(h:0<i)(hi:i<l.length):gZ l i=some (l[i-1]'(by omega)).name:=by
 cases i with
 |zero=>omega
 |succ j=>simp only[gZ];rw[List.getElem?_eq_getElem (by omega)];rfl
theorem uE(l:List aB):ae Tryz.prog 318 [.c (.bs 4 aB cm l)] [] (Rt (.c (.int .i64 (lP l))) []):=by
 refine ao (n:=69) (n0:=0) tabOk Tryz.call318 Tryz.func318 ?_;intro hb;have hb:l.length≤9223372036854775807:=hb.1.1;repeat'((conv=>whnf);first|(refine dec (fun h=>?_) (fun h=>?_)<;>try contradiction)|refine aI ?_|fail)
 ·unfold lP;rw[if_pos (by omega)]
 (conv=>whnf);have ht:lP l=dZ none l:=by unfold lP;rw[if_neg (by omega)]
 rw[ht];refine lp Nat (fun i=>⟨[(0,.c (.bs 4 aB cm l)),(9,.c (.bs 4 aB cm l)),(10,.c (.int .i64 l.length)),(11,.c (.int .i64 i))],[]⟩) (fun i=>i≤l.length∧dZ none l=dZ (gZ l i) (l.drop i)) (fun i=>l.length-i) 0 [] [] ?_ ?_ (fun i hi=>?_)
 ·simp[gZ]
 ·repeat' first|exact trivial|exact rfl|refine And.intro ?_ ?_
 (conv=>whnf);refine dec (fun h4=>?_) (fun h4=>?_)
 ·have hlt:i<l.length:=by omega
  have hat:=Ce hlt hi.2;repeat'((conv=>whnf);first|refine⟨_,_,rfl,List.getElem?_eq_getElem (by omega),?_⟩|fail)
  (conv=>whnf);refine cl [] [] (qi l[i].name) ?_;have leaf:∀{c:Int},fV (gZ l i) l[i]=c→c≠0→c=dZ none l:=fun h1 h2=>by rw[hat,h1,if_neg h2]
  repeat'((conv=>whnf);first|(refine dec (fun h=>?_) (fun h=>?_)<;>try contradiction)|(refine av (fun h=>?_) (fun h=>?_)<;>try contradiction)|refine aI ?_|fail)
  all_goals first|(refine leaf ?_ ?_<;>simp[fV, *];done)|skip
  all_goals
   (conv=>whnf);refine⟨false,.grow,(.l [0,1,2,3,4,5,6,7,8,9,10,11,12,13]),by kernel_rfl,.inl ?_⟩;repeat'((conv=>whnf);first|(refine dec (fun h=>?_) (fun h=>?_)<;>try contradiction)|refine⟨i64 (by omega) (by omega),?_⟩|fail)
   ·(conv=>whnf);refine⟨i-1,l[i-1],by omega,List.getElem?_eq_getElem (by omega),?_⟩;have hp:=Fs (l:=l) (i:=i) (by omega) hlt;repeat'((conv=>whnf);first|refine df (fun h=>?_) (fun h=>?_)|refine⟨i64 (by omega) (by omega),?_⟩|refine aI ?_|fail)
    ·refine leaf ?_ (by decide);simp[fV, *]
    ·refine ag (i+1) [] [] ⟨hlt,?_⟩ (by simp only[];omega) ?_
     ·rw[hat,if_pos];simp[fV, *]
     repeat' first|exact trivial|exact rfl|refine And.intro ?_ ?_
   ·have hp:gZ l i=none:=by
     obtain rfl:i=0:=by omega
     rfl
    skip;refine ag (i+1) [] [] ⟨hlt,?_⟩ (by simp only[];omega) ?_
    ·rw[hat,if_pos];simp[fV, *]
    repeat' first|exact trivial|exact rfl|refine And.intro ?_ ?_
 ·repeat'((conv=>whnf);first|refine aI ?_|fail)
  have:=hi.2;rw[List.drop_of_length_le (by omega)]at this;rw[this];rfl
end Go.Nest
end
section
namespace Go.Nest
open Go Go.AM Go.Proofs
open Go.Proofs.YtpechfcbnoggfaaGreatDoor (tab tabOk)
set_option maxRecDepth 4000
def bH{α:Type}(p:α→Bool)(l:List α):Int:=match l.findIdx? p with
 |some i=>i
 |none=> -1
theorem jj{α:Type}{p:α→Bool}{l:List α}{i:Nat}(h:i<l.length)(h1:(l.take i).any p=false)(h2:p l[i]=true):(i:Int)=bH p l:=by
 have:l.findIdx? p=some i:=by
  rw[List.findIdx?_eq_some_iff_getElem];refine⟨h,h2,fun j hj=>?_⟩;rw[List.any_eq_false]at h1;have:=h1 l[j] (by rw[List.mem_take_iff_getElem];exact⟨j,by omega,rfl⟩);simpa using this
 unfold bH;rw[this]
theorem jM{α:Type}{p:α→Bool}{l:List α}(h1:l.any p=false):(-1:Int)=bH p l:=by
 have:l.findIdx? p=none:=by
  rw[List.findIdx?_eq_none_iff];rw[List.any_eq_false]at h1;intro x hx;simpa using h1 x hx
 unfold bH;rw[this]
theorem mo{α:Type}{p:α→Bool}{l:List α}:decide (0≤bH p l)=l.any p:=by
 unfold bH;cases h:l.findIdx? p with
 |none=>
  rw[List.findIdx?_eq_none_iff]at h;simp;exact h
 |some i=>
  rw[List.findIdx?_eq_some_iff_getElem]at h;obtain⟨h1,h2,_⟩:=h;rw[nv h1 h2];simp
theorem Dx{g:Nat}{p:Int→Bool}(hp:∀x,ae Tryz.prog g [.c (.int .i64 x)] [] (Rt (.c (.bool (p x))) []))(l:List Int):ae Tryz.prog 178 [.c (.bs 1 Int encI l),.c (.fn g [])] [] (Rt (.c (.int .i64 (bH p l))) []):=by
 refine ao (n:=19) (n0:=0) tabOk Tryz.call178 Tryz.func178 ?_;intro hb;have hb:l.length≤9223372036854775807:=hb.1.1;(conv=>whnf);refine lp Nat (fun i=>⟨[(0,.c (.bs 1 Int encI l)),(1,.c (.fn g [])),(7,.c (.int .i64 l.length)),(8,.c (.int .i64 i))],[]⟩) (fun i=>i≤l.length∧(l.take i).any p=false) (fun i=>l.length-i) 0 [] [] ?_ ?_ (fun i hi=>?_)
 ·simp
 ·repeat' first|exact trivial|exact rfl|refine And.intro ?_ ?_
 (conv=>whnf);refine dec (fun h4=>?_) (fun h4=>?_)
 ·have hlt:i<l.length:=by omega
  repeat'((conv=>whnf);first|refine⟨_,_,rfl,List.getElem?_eq_getElem (by omega),?_⟩|fail)
  (conv=>whnf);refine cl [] [] (hp l[i]) ?_;repeat'((conv=>whnf);first|refine aO (fun h=>?_) (fun h=>?_)|refine⟨i64 (by omega) (by omega),?_⟩|refine aI ?_|fail)
  ·exact jj hlt hi.2 h
  ·refine ag (i+1) [] [] ⟨hlt,gq hlt hi.2 h⟩ (by simp only[];omega) ?_;repeat' first|exact trivial|exact rfl|refine And.intro ?_ ?_
 ·repeat'((conv=>whnf);first|refine aI ?_|fail)
  have:=hi.2;rw[List.take_of_length_le (by omega)]at this;exact jM this
theorem sa{g:Nat}{p:Int→Bool}(hp:∀x,ae Tryz.prog g [.c (.int .i64 x)] [] (Rt (.c (.bool (p x))) []))(l:List Int):ae Tryz.prog 106 [.c (.bs 1 Int encI l),.c (.fn g [])] [] (Rt (.c (.bool (l.any p))) []):=by
 refine ao (n:=9) (n0:=0) tabOk Tryz.call106 Tryz.func106 ?_;intro hb;(conv=>whnf);refine cl [] [] (Dx hp l) ?_;(conv=>whnf);exact aC mo
theorem rW(n:Int):ae Tryz.prog 316 [.c (.int .i64 n)] [] (Rt (.c (.bool (decide (n<0)))) []):=by
 refine ao (n:=5) (n0:=0) tabOk Tryz.call316 Tryz.func316 ?_;intro hb;(conv=>whnf);exact aC rfl
def bZ(o:Ob):Int:=
 if o.kind<1∨3<o.kind then 6
 else if(o.kind≠1∧0<o.bytes.length)∨(o.kind≠2∧0<o.entries.length)∨(o.kind≠3∧(o.tree≠0∨0<o.parents.length∨0<o.text.length))then 7
 else if 400<o.bytes.length∨60<o.text.length then 4
 else if 3<o.parents.length then 5
 else if o.tree<0 then 1
 else if o.parents.any (fun k=>decide (k<0))=true then 1
 else if o.text.all shown=true then lP o.entries
 else 2
theorem ia:({data:= #[]}:ByteArray).data.toList=[]:=rfl
set_option maxHeartbeats 2000000 in
theorem A8(o:Ob):ae Tryz.prog 270 [.st (fS o)] [] (Rt (.c (.int .i64 (bZ o))) []):=by
 obtain⟨kind,bytes,entries,tree,parents,text⟩:=o;refine ao (n:=98) (n0:=0) tabOk Tryz.call270 Tryz.func270 ?_;intro hb;(conv=>whnf);refine⟨false,.grow,(.l [0,1,2,3,4,5,6,7,8,9,10,11]),by kernel_rfl,.inl ?_⟩;by_cases hk1:kind=1
 ·subst hk1;repeat'((conv=>whnf);first|(refine dec (fun h=>?_) (fun h=>?_)<;>try contradiction)|(refine av (fun h=>?_) (fun h=>?_)<;>try contradiction)|refine aI ?_|fail)
  all_goals first|(show(_:Int)=bZ _;dsimp only at*;(try simp only[ia,←List.length_eq_zero_iff]at*);simp only[bZ];(repeat' split)<;>first|rfl|(exfalso;omega)|(simp_all;done))|skip
  all_goals
   (conv=>whnf);refine cl [] [] (sa rW parents) ?_;repeat'((conv=>whnf);first|refine aO (fun h=>?_) (fun h=>?_)|refine aI ?_|fail)
  all_goals first|(show(_:Int)=bZ _;dsimp only at*;(try simp only[ia,←List.length_eq_zero_iff]at*);simp only[bZ];(repeat' split)<;>first|rfl|(exfalso;omega)|(simp_all;done))|skip
  all_goals
   (conv=>whnf);refine cl [] [] (uJ text) ?_;repeat'((conv=>whnf);first|refine df (fun h=>?_) (fun h=>?_)|refine aI ?_|fail)
  all_goals first|(show(_:Int)=bZ _;dsimp only at*;(try simp only[ia,←List.length_eq_zero_iff]at*);simp only[bZ];(repeat' split)<;>first|rfl|(exfalso;omega)|(simp_all;done))|skip
  all_goals
   (conv=>whnf);refine cl [] [] (uE entries) ?_;repeat'((conv=>whnf);first|refine aI ?_|fail)
  all_goals first|(show(_:Int)=bZ _;dsimp only at*;(try simp only[ia,←List.length_eq_zero_iff]at*);simp only[bZ];(repeat' split)<;>first|rfl|(exfalso;omega)|(simp_all;done))|skip
 by_cases hk2:kind=2
 ·subst hk2;repeat'((conv=>whnf);first|(refine dec (fun h=>?_) (fun h=>?_)<;>try contradiction)|(refine av (fun h=>?_) (fun h=>?_)<;>try contradiction)|refine aI ?_|fail)
  all_goals first|(show(_:Int)=bZ _;dsimp only at*;(try simp only[ia,←List.length_eq_zero_iff]at*);simp only[bZ];(repeat' split)<;>first|rfl|(exfalso;omega)|(simp_all;done))|skip
  all_goals
   (conv=>whnf);refine cl [] [] (sa rW parents) ?_;repeat'((conv=>whnf);first|refine aO (fun h=>?_) (fun h=>?_)|refine aI ?_|fail)
  all_goals first|(show(_:Int)=bZ _;dsimp only at*;(try simp only[ia,←List.length_eq_zero_iff]at*);simp only[bZ];(repeat' split)<;>first|rfl|(exfalso;omega)|(simp_all;done))|skip
  all_goals
   (conv=>whnf);refine cl [] [] (uJ text) ?_;repeat'((conv=>whnf);first|refine df (fun h=>?_) (fun h=>?_)|refine aI ?_|fail)
  all_goals first|(show(_:Int)=bZ _;dsimp only at*;(try simp only[ia,←List.length_eq_zero_iff]at*);simp only[bZ];(repeat' split)<;>first|rfl|(exfalso;omega)|(simp_all;done))|skip
  all_goals
   (conv=>whnf);refine cl [] [] (uE entries) ?_;repeat'((conv=>whnf);first|refine aI ?_|fail)
  all_goals first|(show(_:Int)=bZ _;dsimp only at*;(try simp only[ia,←List.length_eq_zero_iff]at*);simp only[bZ];(repeat' split)<;>first|rfl|(exfalso;omega)|(simp_all;done))|skip
 by_cases hk3:kind=3
 ·subst hk3;repeat'((conv=>whnf);first|(refine dec (fun h=>?_) (fun h=>?_)<;>try contradiction)|refine aI ?_|fail)
  all_goals first|(show(_:Int)=bZ _;dsimp only at*;(try simp only[ia,←List.length_eq_zero_iff]at*);simp only[bZ];(repeat' split)<;>first|rfl|(exfalso;omega)|(simp_all;done))|skip
  all_goals
   (conv=>whnf);refine cl [] [] (sa rW parents) ?_;repeat'((conv=>whnf);first|refine aO (fun h=>?_) (fun h=>?_)|refine aI ?_|fail)
  all_goals first|(show(_:Int)=bZ _;dsimp only at*;(try simp only[ia,←List.length_eq_zero_iff]at*);simp only[bZ];(repeat' split)<;>first|rfl|(exfalso;omega)|(simp_all;done))|skip
  all_goals
   (conv=>whnf);refine cl [] [] (uJ text) ?_;repeat'((conv=>whnf);first|refine df (fun h=>?_) (fun h=>?_)|refine aI ?_|fail)
  all_goals first|(show(_:Int)=bZ _;dsimp only at*;(try simp only[ia,←List.length_eq_zero_iff]at*);simp only[bZ];(repeat' split)<;>first|rfl|(exfalso;omega)|(simp_all;done))|skip
  all_goals
   (conv=>whnf);refine cl [] [] (uE entries) ?_;repeat'((conv=>whnf);first|refine aI ?_|fail)
  all_goals first|(show(_:Int)=bZ _;dsimp only at*;(try simp only[ia,←List.length_eq_zero_iff]at*);simp only[bZ];(repeat' split)<;>first|rfl|(exfalso;omega)|(simp_all;done))|skip
 ·have:bZ ⟨kind,bytes,entries,tree,parents,text⟩=6:=by
   unfold bZ;rw[if_pos (by simp only[];omega)]
  rw[this];repeat'((conv=>whnf);first|(refine av (fun h=>?_) (fun h=>?_)<;>try contradiction)|refine aI ?_|fail)
  all_goals rfl
end Go.Nest
end
section
namespace Go.Nest
open Go Go.AM Go.Proofs
open Go.Proofs.YtpechfcbnoggfaaGreatDoor (tab tabOk)
set_option maxRecDepth 4000
theorem tO{o u:Ob}(h:¬(o.kind=u.kind∧o.tree=u.tree∧o.text=u.text∧o.bytes=u.bytes∧o.entries=u.entries∧o.parents=u.parents)):false=decide (o=u):=by
 symm;rw[decide_eq_false_iff_not];intro e;subst e;exact h ⟨rfl,rfl,rfl,rfl,rfl,rfl⟩
theorem ET{o u:Ob}(h1:o.kind=u.kind)(h2:o.tree=u.tree)(h3:o.text=u.text)(h4:o.bytes=u.bytes)(h5:o.entries=u.entries)(h6:o.parents=u.parents):o=u:=by
 cases o;cases u;simp_all
theorem Gl(o u:Ob):ae Tryz.prog 274 [.st (fS o),.st (fS u)] [] (Rt (.c (.bool (decide (o=u)))) []):=by
 refine ao (n:=45) (n0:=0) tabOk Tryz.call274 Tryz.func274 ?_;intro hb;repeat'((conv=>whnf);first|(refine dec (fun h=>?_) (fun h=>?_)<;>try contradiction)|refine aC ?_|fail)
 ·(conv=>whnf);refine cl [] [] (Cg o.bytes u.bytes) ?_;repeat'((conv=>whnf);first|(refine dec (fun h=>?_) (fun h=>?_)<;>try contradiction)|refine aC ?_|fail)
  ·(conv=>whnf);refine cl [] [] (Ci o.entries u.entries) ?_;repeat'((conv=>whnf);first|(refine dec (fun h=>?_) (fun h=>?_)<;>try contradiction)|refine aC ?_|fail)
   ·(conv=>whnf);refine cl [] [] (Cm o.parents u.parents) ?_;repeat'((conv=>whnf);first|refine aC ?_|fail)
    rw[Bool.eq_iff_iff,decide_eq_true_iff,decide_eq_true_iff];exact⟨fun h6=>by apply ET<;>assumption,fun e=>by rw[e]⟩
   all_goals exact tO (by simp[*])
  all_goals exact tO (by simp[*])
 all_goals exact tO (by simp[*])
theorem yK(o:Ob)(h1:o.bytes.length*1≤140737488355328)(h2:o.entries.length*40≤140737488355328)(h3:o.parents.length*8≤140737488355328):ae Tryz.prog 247 [.st (fS o)] [] (Rt (.st (an o)) []):=by
 refine ao (n:=16) (n0:=0) tabOk Tryz.call247 Tryz.func247 ?_;intro hb;(conv=>whnf);refine⟨false,.grow,(.l [0,1,3,4,6,7,2,9,5,8,10,11,12,13,14]),by kernel_rfl,.inl ?_⟩;skip;(conv=>whnf);refine cl [] [] (rZ o.bytes h1) ?_;skip;(conv=>whnf);refine cl [] [] (Be o.entries h2) ?_;skip;(conv=>whnf);refine cl [] [] (pq o.parents h3) ?_;skip;(conv=>whnf);exact rx [2,3,4] []
end Go.Nest
end
section
namespace Go.Nest
open Go Go.AM Go.Proofs
open Go.Proofs.YtpechfcbnoggfaaGreatDoor (tab tabOk)
set_option maxRecDepth 4000
def kK:Ob:=⟨0,[],[],0,[],[]⟩
def kindOf(l:List Ob)(id:Int):Int:=if id<0 then 0 else((l[id.toNat]?).map (·.kind)).getD 0
theorem xM{l:List Ob}{id:Int}(h:id<0):(0:Int)=kindOf l id:=by simp[kindOf,h]
theorem xL{l:List Ob}{id:Int}(h:(l.length:Int)≤id):(0:Int)=kindOf l id:=by
 unfold kindOf;split
 ·rfl
 ·rw[List.getElem?_eq_none (by omega)];rfl
theorem DN{l:List Ob}{id:Int}(h:¬id<0)(h2:id.toNat<l.length):l[id.toNat].kind=kindOf l id:=by
 unfold kindOf;rw[if_neg h,List.getElem?_eq_getElem h2];rfl
theorem mz(l:List Ob)(id:Int):ae Tryz.prog 103 [.c (.bp [.bs 6 Ob an l]),.c (.int .i64 id)] [] (Rt (.c (.int .i64 (kindOf l id))) []):=by
 refine ao (n:=24) (n0:=0) tabOk Tryz.call103 Tryz.func103 ?_;intro hb;repeat'((conv=>whnf);first|(refine dec (fun h=>?_) (fun h=>?_)<;>try contradiction)|refine aI ?_|fail)
 ·exact xM h
 ·exact xL h
 ·(conv=>whnf);have hlt:id.toNat<l.length:=by omega
  refine⟨id.toNat,l[id.toNat],by omega,List.getElem?_eq_getElem hlt,?_⟩;repeat'((conv=>whnf);first|refine aI ?_|fail)
  exact DN (by assumption) hlt
theorem mH(l:List Ob):ae Tryz.prog 71 [.c (.bp [.bs 6 Ob an l])] [] (Rt (.c (.int .i64 l.length)) []):=by
 refine ao (n:=8) (n0:=0) tabOk Tryz.call71 Tryz.func71 ?_;intro hb;repeat'((conv=>whnf);first|refine aI ?_|fail)
 rfl
def dU(l:List Ob)(o:Ob):Bool:=(o.entries.all fun e=>decide (kindOf l e.id=e.mode))&&((o.parents.all fun k=>decide (kindOf l k=3))&&(!decide (o.kind=3)||decide (kindOf l o.tree=2)))
theorem rB{α:Type}{p:α→Bool}{l:List α}{i:Nat}(h:i<l.length)(h1:(l.take i).all p=true)(h2:p l[i]=true):(l.take (i+1)).all p=true:=by
 rw[List.take_succ_eq_append_getElem h,List.all_append,h1];simp[h2]
theorem rA{α:Type}{p:α→Bool}{l:List α}{i:Nat}(h:i<l.length)(h2:¬p l[i]=true):l.all p=false:=by
 rw[Bool.eq_false_iff,Ne,List.all_eq_true];exact fun h3=>h2 (h3 _ (List.getElem_mem h))
theorem zT{m:Int}(h:1≤m∧m≤3):([0,1,2,3]:List Int)[m.toNat]? =some m:=by
 have:m=1∨m=2∨m=3:=by omega
 rcases this with rfl|rfl|rfl<;>rfl
theorem D3(l:List Ob)(o:Ob)(ho:∀e∈o.entries,1≤e.mode∧e.mode≤3):ae Tryz.prog 271 [.c (.bp [.bs 6 Ob an l]),.st (fS o)] [] (Rt (.c (.bool (dU l o))) []):=by
 refine kg (n:=49) (n0:=0) tabOk Tryz.call271 Tryz.func271 ?_;intro hb;have hb1:o.entries.length≤9223372036854775807:=hb.1.2.1.2.2.1;have hb2:o.parents.length≤9223372036854775807:=hb.1.2.1.2.2.2.2.1;refine XM.seq ?_;skip;refine XM.join (ι:=Unit) (fun _=>⟨[(0,.c (.bp [.bs 6 Ob an l])),(3,.c (.ptr 0 0))],[.box (fS o)]⟩) (fun _=>(o.entries.all fun e=>decide (kindOf l e.id=e.mode))=true) ?_ (fun _ h1=>?_)
 ·(conv=>whnf);refine lp Nat (fun i=>⟨[(0,.c (.bp [.bs 6 Ob an l])),(3,.c (.ptr 0 0)),(10,.c (.bs 4 aB cm o.entries)),(11,.c (.int .i64 o.entries.length)),(12,.c (.int .i64 i))],[.box (fS o)]⟩) (fun i=>i≤o.entries.length∧(o.entries.take i).all (fun e=>decide (kindOf l e.id=e.mode))=true) (fun i=>o.entries.length-i) 0 [] [.same 0] ?_ ?_ (fun i hi=>?_)
  ·simp
  ·repeat' first|exact trivial|exact rfl|refine And.intro ?_ ?_
  (conv=>whnf);refine dec (fun h4=>?_) (fun h4=>?_)
  ·have hlt:i<o.entries.length:=by omega
   have hm:=ho _ (List.getElem_mem hlt);repeat'((conv=>whnf);first|refine⟨_,_,rfl,List.getElem?_eq_getElem (by omega),?_⟩|fail)
   (conv=>whnf);refine⟨false,.grow,(.alt [0,1,2,5,6] [3,4] fun j=>bif Nat.beq j 3 then(.l [4,7,8,9])else bif Nat.beq j 4 then(.l [7,8,3,9])else .l []),by kernel_rfl,.inl ?_⟩;(conv=>whnf);refine⟨?_,?_⟩
   ·(conv=>whnf);refine cl [] [] (mz l o.entries[i].id) ?_;skip;(conv=>whnf);refine⟨[0,1,2,3],rfl,?_⟩;(conv=>whnf);refine⟨o.entries[i].mode.toNat,⟨by omega,by simp only[List.length_cons,List.length_nil];omega⟩,?_⟩;(conv=>whnf);refine⟨_,zT hm,?_⟩;repeat'((conv=>whnf);first|(refine av (fun h=>?_) (fun h=>?_)<;>try contradiction)|refine⟨i64 (by omega) (by omega),?_⟩|refine aC ?_|fail)
    ·unfold dU;rw[rA (l:=o.entries) hlt (by simpa using h)];simp
    ·refine ag (i+1) [] [.same 0] ⟨hlt,rB hlt hi.2 (by simpa using h)⟩ (by simp only[];omega) ?_;repeat' first|exact trivial|exact rfl|refine And.intro ?_ ?_
   ·(conv=>whnf);refine⟨[0,1,2,3],rfl,?_⟩;(conv=>whnf);refine⟨o.entries[i].mode.toNat,⟨by omega,by simp only[List.length_cons,List.length_nil];omega⟩,?_⟩;(conv=>whnf);refine⟨_,zT hm,?_⟩;(conv=>whnf);refine cl [] [] (mz l o.entries[i].id) ?_;repeat'((conv=>whnf);first|(refine av (fun h=>?_) (fun h=>?_)<;>try contradiction)|refine⟨i64 (by omega) (by omega),?_⟩|refine aC ?_|fail)
    ·unfold dU;rw[rA (l:=o.entries) hlt (by simpa using h)];simp
    ·refine ag (i+1) [] [.same 0] ⟨hlt,rB hlt hi.2 (by simpa using h)⟩ (by simp only[];omega) ?_;repeat' first|exact trivial|exact rfl|refine And.intro ?_ ?_
  ·have:=hi.2;rw[List.take_of_length_le (by omega)]at this;(conv=>whnf);refine⟨(),this,[],[.same 0],?_⟩;repeat' first|exact trivial|exact rfl|refine And.intro ?_ ?_
 refine XM.join (ι:=Unit) (fun _=>⟨[(0,.c (.bp [.bs 6 Ob an l])),(3,.c (.ptr 0 0))],[.box (fS o)]⟩) (fun _=>(o.parents.all fun k=>decide (kindOf l k=3))=true) ?_ (fun _ h2=>?_)
 ·(conv=>whnf);refine lp Nat (fun i=>⟨[(0,.c (.bp [.bs 6 Ob an l])),(3,.c (.ptr 0 0)),(28,.c (.bs 1 Int encI o.parents)),(29,.c (.int .i64 o.parents.length)),(30,.c (.int .i64 i))],[.box (fS o)]⟩) (fun i=>i≤o.parents.length∧(o.parents.take i).all (fun k=>decide (kindOf l k=3))=true) (fun i=>o.parents.length-i) 0 [] [.same 0] ?_ ?_ (fun i hi=>?_)
  ·simp
  ·repeat' first|exact trivial|exact rfl|refine And.intro ?_ ?_
  (conv=>whnf);refine dec (fun h4=>?_) (fun h4=>?_)
  ·have hlt:i<o.parents.length:=by omega
   repeat'((conv=>whnf);first|refine⟨_,_,rfl,List.getElem?_eq_getElem (by omega),?_⟩|fail)
   (conv=>whnf);refine cl [] [] (mz l o.parents[i]) ?_;repeat'((conv=>whnf);first|(refine av (fun h=>?_) (fun h=>?_)<;>try contradiction)|refine⟨i64 (by omega) (by omega),?_⟩|refine aC ?_|fail)
   ·unfold dU;rw[rA (l:=o.parents) hlt (by simpa using h)];simp
   ·refine ag (i+1) [] [.same 0] ⟨hlt,rB hlt hi.2 (by simpa using h)⟩ (by simp only[];omega) ?_;repeat' first|exact trivial|exact rfl|refine And.intro ?_ ?_
  ·have:=hi.2;rw[List.take_of_length_le (by omega)]at this;(conv=>whnf);refine⟨(),this,[],[.same 0],?_⟩;repeat' first|exact trivial|exact rfl|refine And.intro ?_ ?_
 refine XM.of ?_;have hl:dU l o=(!decide (o.kind=3)||decide (kindOf l o.tree=2)):=by unfold dU;rw[h1,h2];rfl
 rw[hl];repeat'((conv=>whnf);first|(refine av (fun h=>?_) (fun h=>?_)<;>try contradiction)|refine aC ?_|fail)
 ·simp[h]
 ·(conv=>whnf);refine cl [] [] (mz l o.tree) ?_;repeat'((conv=>whnf);first|refine aC ?_|fail)
  simp[h]
end Go.Nest
end
section
namespace Go.Nest
open Go Go.AM
theorem Cd{p:Option (List UInt8)}{e:aB}(h:fV p e=0):bL e.name=0∧(1≤e.mode∧e.mode≤3)∧0≤e.id∧(0≤e.au∧e.au<4)∧(e.mode=3∨e.au=0):=by
 unfold fV at h;split at h
 ·exact absurd h ‹_›
 split at h
 ·cases h
 split at h
 ·cases h
 split at h
 ·cases h
 refine⟨?_,?_,?_,?_,?_⟩<;>omega
theorem ko:∀{l:List aB} {p:Option (List UInt8)},dZ p l=0→∀e∈l,bL e.name=0∧(1≤e.mode∧e.mode≤3)∧0≤e.id∧(0≤e.au∧e.au<4)∧(e.mode=3∨e.au=0)
 |[],_,_,e,he=>by cases he
 |x::l,p,h,e,he=>by
  unfold dZ at h;split at h
  ·rename_i h0;rcases List.mem_cons.1 he with rfl|he
   ·exact Cd h0
   ·exact ko h e he
  ·exact absurd h ‹_›
structure ik(o:Ob):Prop where
 k1:1≤o.kind
 k3:o.kind≤3
 bytes:o.bytes.length≤400
 text:o.text.length≤60
 parents:o.parents.length≤3
 entries:o.entries.length≤60
 nb:o.kind≠1→o.bytes=[]
 ne:o.kind≠2→o.entries=[]
 nc:o.kind≠3→o.tree=0∧o.parents=[]∧o.text=[]
 tree:0≤o.tree
 par:∀k∈o.parents,0≤k
 txt:o.text.all shown=true
 ents:dZ none o.entries=0
theorem pY{α:Type}{l:List α}(h:¬0<l.length):l=[]:=List.eq_nil_of_length_eq_zero (by omega)
theorem oo{o:Ob}(h:bZ o=0):ik o:=by
 simp only[bZ]at h;split at h
 ·cases h
 split at h
 ·cases h
 split at h
 ·cases h
 split at h
 ·cases h
 split at h
 ·cases h
 split at h
 ·cases h
 split at h
 ·unfold lP at h;split at h
  ·cases h
  rename_i h1 h2 h3 h4 h5 h6 h7 h8;refine⟨by omega,by omega,by omega,by omega,by omega,by omega,fun hk=>pY (by omega),fun hk=>pY (by omega),fun hk=>⟨by omega,pY (by omega),pY (by omega)⟩,by omega,fun k hk=>?_,h7,h⟩;rw[Bool.not_eq_true,List.any_eq_false]at h6;have:=h6 k hk;simpa using this
 ·cases h
theorem ik.tI{o:Ob}(h:ik o):∀e∈o.entries,1≤e.mode∧e.mode≤3:=fun e he=>(ko h.ents e he).2.1
theorem ik.ids{o:Ob}(h:ik o):∀e∈o.entries,0≤e.id:=fun e he=>(ko h.ents e he).2.2.1
inductive aj:List Ob→Prop
 |nil:aj []
 |snoc {l:List Ob} {o:Ob} (h:aj l) (ho:bZ o=0) (hl:dU l o=true) (hn:o∉l) (hlen:l.length<600):aj (l++[o])
theorem aj.len{l:List Ob}(h:aj l):l.length≤600:=by
 cases h with
 |nil=>simp
 |snoc _ _ _ _ h=>simp;omega
theorem aj.mem{l:List Ob}(h:aj l):∀o∈l,ik o:=by
 induction h with
 |nil=>intro o ho;cases ho
 |snoc _ ho _ _ _ ih=>
  intro u hu;rcases List.mem_append.1 hu with hu|hu
  ·exact ih u hu
  ·rw[List.mem_singleton]at hu;subst hu;exact oo ho
def aA(l:List Ob)(o:Ob):Int×Int×List Ob:=
 if bZ o≠0 then(0,bZ o,l)else if dU l o=false then(0,14,l)else if 0≤bH (fun x=>decide (x=o)) l then(bH (fun x=>decide (x=o)) l,0,l)
 else if l.length=600 then(0,15,l)else(l.length,0,l++[o])
theorem Da{α:Type}{p:α→Bool}{l:List α}(h:¬0≤bH p l):l.any p=false:=by rw[←mo];simpa using h
theorem iM{l:List Ob}(h:aj l)(o:Ob):aj (aA l o).2.2:=by
 unfold aA;split
 ·exact h
 split
 ·exact h
 split
 ·exact h
 split
 ·exact h
 rename_i h1 h2 h3 h4;refine .snoc h (by simpa using h1) (by simpa using h2) ?_ (by have:=h.len;omega);have:=Da h3;rw[List.any_eq_false]at this;intro hm;simpa using this o hm
def ai(l:List Ob)(id:Int):Ob:=if id<0 then kK else(l[id.toNat]?).getD kK
theorem jg{l:List Ob}{id:Int}(h:¬id<0)(h2:id.toNat<l.length):ai l id=l[id.toNat]:=by
 unfold ai;rw[if_neg h,List.getElem?_eq_getElem h2];rfl
theorem fp{l:List Ob}{id:Int}:(ai l id).kind=kindOf l id:=by
 unfold ai kindOf;split
 ·rfl
 ·cases l[id.toNat]? <;>rfl
theorem c9{l:List Ob}{id:Int}(h:¬kindOf l id=0):¬id<0∧id.toNat<l.length:=by
 by_cases h1:id<0
 ·exact absurd (xM h1).symm h
 ·refine⟨h1,?_⟩;by_cases h2:(l.length:Int)≤id
  ·exact absurd (xL h2).symm h
  ·omega
theorem aj.get{l:List Ob}(h:aj l){id:Int}(h1:¬kindOf l id=0):ik (ai l id):=by
 obtain⟨h2,h3⟩:=c9 h1;rw[jg h2 h3];exact h.mem _ (List.getElem_mem h3)
theorem aj.kz{l:List Ob}(h:aj l){id:Int}(h1:kindOf l id=0):ai l id=kK:=by
 unfold ai;split
 ·rfl
 ·cases h2:l[id.toNat]? with
  |none=>rfl
  |some o=>
   exfalso;have:=(h.mem o (List.mem_of_getElem? h2)).k1;unfold kindOf at h1;rw[if_neg ‹_›,h2]at h1;simp at h1;omega
def dz(l:List Ob)(id:Int):List Int:=((ai l id).entries.filter fun e=>decide (e.mode≠3)).map (·.id)++((if(ai l id).kind=3 then[(ai l id).tree]else[])++(ai l id).parents)
theorem yw{l:List Ob}(h:aj l)(id:Int):(dz l id).length≤64:=by
 unfold dz;by_cases h0:kindOf l id=0
 ·rw[h.kz h0];simp[kK]
 ·have:=h.get h0;have h1:=this.entries;have h2:=this.parents;have h3:=List.length_filter_le (fun e:aB=>decide (e.mode≠3)) (ai l id).entries;rw[List.length_append,List.length_append,List.length_map];split<;>simp<;>simp at h3<;>omega
end Go.Nest
end
section
namespace Go.Nest
open Go Go.AM
inductive ca(l:List Ob)(ids:List Int):Int→Prop
 |base {k:Int} (h:k∈ids) (hk:¬kindOf l k=0):ca l ids k
 |step {j k:Int} (h:ca l ids j) (hk:k∈dz l j):ca l ids k
theorem my{l m:List Ob}{k:Int}(h:¬kindOf l k=0):kindOf (l++m) k=kindOf l k:=by
 obtain⟨h1,h2⟩:=c9 h;unfold kindOf;rw[if_neg h1,if_neg h1,List.getElem?_append_left h2]
theorem HT{l:List Ob}{o:Ob}:kindOf (l++[o]) l.length=o.kind:=by
 unfold kindOf;rw[if_neg (by omega)];simp
theorem xm{l m:List Ob}{k:Int}(h2:k<l.length):ai (l++m) k=ai l k:=by
 unfold ai;split
 ·rfl
 ·rw[List.getElem?_append_left (by omega)]
theorem xn{l:List Ob}{o:Ob}:ai (l++[o]) l.length=o:=by
 unfold ai;rw[if_neg (by omega)];simp
theorem EP{l m:List Ob}{k:Int}(h2:k<l.length):dz (l++m) k=dz l k:=by unfold dz;rw[xm h2]
theorem Et{l:List Ob}{j k:Int}(h:k∈dz l j):(∃e∈(ai l j).entries,e.mode≠3∧e.id=k)∨((ai l j).kind=3∧k=(ai l j).tree)∨k∈(ai l j).parents:=by
 unfold dz at h;rw[List.mem_append,List.mem_append,List.mem_map]at h;rcases h with⟨e,he,h⟩|h|h
 ·rw[List.mem_filter]at he;exact .inl ⟨e,he.1,by simpa using he.2,h⟩
 ·split at h
  ·rw[List.mem_singleton]at h;exact .inr (.inl ⟨‹_›,h⟩)
  ·cases h
 ·exact .inr (.inr h)
theorem D2{l:List Ob}{o:Ob}(ho:ik o)(hl:dU l o=true){j k:Int}(hj:ai (l++[o]) j=o)(h:k∈dz (l++[o]) j):¬kindOf l k=0:=by
 unfold dU at hl;rw[Bool.and_eq_true,Bool.and_eq_true,List.all_eq_true,List.all_eq_true]at hl;have:=Et h;rw[hj]at this;rcases this with⟨e,he,h1,rfl⟩|⟨h1,rfl⟩|h1
 ·have h2:=hl.1 e he;have h3:=ho.tI e he;rw[decide_eq_true_iff]at h2;omega
 ·have h2:=hl.2.2;simp[h1]at h2;omega
 ·have h2:=hl.2.1 k h1;rw[decide_eq_true_iff]at h2;omega
theorem tM{l:List Ob}(hl:aj l){j k:Int}(h:k∈dz l j):¬kindOf l k=0∧k<j:=by
 induction hl with
 |nil=>unfold dz ai at h;split at h<;>simp[kK]at h
 | @snoc l o hp ho hle hn hlen ih=>
  by_cases hj:j<l.length
  ·rw[EP hj]at h;obtain⟨h1,h2⟩:=ih h;exact⟨by rw[my h1];exact h1,h2⟩
  ·by_cases hj2:j=l.length
   ·subst hj2;have h1:=D2 (oo ho) hle xn h;obtain⟨h2,h3⟩:=c9 h1;exact⟨by rw[my h1];exact h1,by omega⟩
   ·exfalso
    have:ai (l++[o]) j=kK:=by
     unfold ai;rw[if_neg (by omega),List.getElem?_eq_none (by rw[List.length_append,List.length_singleton];omega)];rfl
    unfold dz at h;rw[this]at h;simp[kK]at h
theorem ca.kind{l:List Ob}{ids:List Int}(hl:aj l){k:Int}(h:ca l ids k):¬kindOf l k=0:=by
 cases h with
 |base _ hk=>exact hk
 |step _ hk=>exact(tM hl hk).1
noncomputable def ba(l:List Ob)(ids:List Int):List Int:=((List.range l.length).filter fun k:Nat=> @decide (ca l ids (k:Int)) (Classical.propDecidable _)).map fun k:Nat=>(k:Int)
def Mk(vis:List Bool)(k:Int):Prop:=∃n:Nat,k=n∧vis[n]? =some true
def kN(vis:List Bool)(i:Nat):List Int:=((List.range i).filter fun k:Nat=>(vis[k]?).getD false).map fun k:Nat=>(k:Int)
theorem E7{vis:List Bool}{i:Nat}(h:i<vis.length):kN vis (i+1)=kN vis i++(if vis[i]=true then[(i:Int)]else[]):=by
 unfold kN;rw[List.range_succ,List.filter_append,List.map_append];congr 1
 cases hv:vis[i]<;>simp[List.getElem?_eq_getElem h,hv]
theorem E5{vis:List Bool}{i:Nat}:(kN vis i).length≤i:=by
 unfold kN;rw[List.length_map];exact Nat.le_trans (List.length_filter_le _ _) (by simp)
theorem E6{l:List Ob}{ids:List Int}{vis:List Bool}(hv:vis.length=l.length)(h:∀k,Mk vis k↔ca l ids k):kN vis l.length=ba l ids:=by
 unfold kN ba;congr 1
 refine List.filter_congr fun k hk=>?_;rw[List.mem_range]at hk;have:=h k;rw[Bool.eq_iff_iff,@decide_eq_true_iff _ (Classical.propDecidable _),←this];unfold Mk;constructor
 ·intro h1;refine⟨k,rfl,?_⟩;rw[List.getElem?_eq_getElem (by omega)]at h1⊢;simpa using h1
 ·rintro⟨n,h1,h2⟩;obtain rfl:k=n:=by omega
  rw[h2];rfl
theorem Mk.set{vis:List Bool}{n:Nat}{k:Int}(hn:n<vis.length):Mk (vis.set n true) k↔Mk vis k∨k=n:=by
 unfold Mk;constructor
 ·rintro⟨m,rfl,h⟩;by_cases e:n=m
  ·subst e;exact .inr rfl
  ·rw[List.getElem?_set_ne e]at h;exact .inl ⟨m,rfl,h⟩
 ·rintro(⟨m,rfl,h⟩|rfl)
  ·by_cases e:n=m
   ·subst e;exact⟨n,rfl,by rw[List.getElem?_set_self hn]⟩
   ·exact⟨m,rfl,by rw[List.getElem?_set_ne e];exact h⟩
  ·exact⟨n,rfl,by rw[List.getElem?_set_self hn]⟩
theorem count_set:∀{vis:List Bool} {n:Nat},vis[n]? =some false→(vis.set n true).count true=vis.count true+1
 |b::v,0,h=>by simp at h;subst h;simp
 |b::v,n+1,h=>by
  simp at h;rw[List.set_cons_succ,List.count_cons,List.count_cons,count_set h];omega
theorem ca.of_closed{l:List Ob}{ids:List Int}{vis:List Bool}(h1:∀k∈ids,¬kindOf l k=0→Mk vis k)(h2:∀j,Mk vis j→∀k∈dz l j,Mk vis k){k:Int}(h:ca l ids k):Mk vis k:=by
 induction h with
 |base h hk=>exact h1 _ h hk
 |step _ hk ih=>exact h2 _ ih _ hk
theorem yy{n:Nat}{k:Int}:¬Mk (List.replicate n false) k:=by
 rintro⟨m,rfl,h⟩;rw[List.getElem?_replicate]at h;split at h<;>cases h
end Go.Nest
end
section
namespace Go.Nest
open Go Go.AM
theorem aj.nodup{l:List Ob}(h:aj l):l.Nodup:=by
 induction h with
 |nil=>exact List.nodup_nil
 |snoc _ _ _ hn _ ih=>
  rw[List.nodup_append];exact⟨ih,by simp,fun a ha b hb=>by rw[List.mem_singleton]at hb;subst hb;intro e;subst e;exact hn ha⟩
theorem xV{l m:List Ob}{o:Ob}(ho:ik o)(h:dU l o=true):dU (l++m) o=true:=by
 unfold dU at h⊢;rw[Bool.and_eq_true,Bool.and_eq_true,List.all_eq_true,List.all_eq_true]at h⊢;refine⟨fun e he=>?_,fun k hk=>?_,?_⟩
 ·have h1:=h.1 e he;have h2:=ho.tI e he;rw[decide_eq_true_iff]at h1⊢;rw[my (by omega)];exact h1
 ·have h1:=h.2.1 k hk;rw[decide_eq_true_iff]at h1⊢;rw[my (by omega)];exact h1
 ·have h1:=h.2.2;by_cases h3:o.kind=3
  ·simp[h3]at h1⊢;rw[my (by omega)];exact h1
  ·simp[h3]
theorem aj.obj{l:List Ob}(h:aj l):∀o∈l,bZ o=0∧dU l o=true:=by
 induction h with
 |nil=>intro o ho;cases ho
 |snoc hp ho hl _ _ ih=>
  intro u hu;rcases List.mem_append.1 hu with hu|hu
  ·exact⟨(ih u hu).1,xV (oo (ih u hu).1) (ih u hu).2⟩
  ·rw[List.mem_singleton]at hu;subst hu;exact⟨ho,xV (oo ho) hl⟩
theorem yT{l:List Ob}(h:aj l){k:Nat}(hk:k<l.length):aA l l[k]=((k:Int),0,l):=by
 obtain⟨h1,h2⟩:=h.obj _ (List.getElem_mem hk)
 have hi := jj (p := fun x => decide (x = l[k])) hk (by
  rw[List.any_eq_false];intro x hx he;rw[decide_eq_true_iff]at he;subst he;obtain⟨j,hj,e⟩:=List.mem_take_iff_getElem.1 hx;have:=(List.getElem_inj h.nodup).1 e;omega) (by simp)
 unfold aA;rw[if_neg (by simpa using h1),if_neg (by simp[h2]),if_pos (by omega),←hi]
theorem kH{l:List Ob}{ids:List Int}(hl:aj l){k:Int}:k∈ba l ids↔ca l ids k:=by
 unfold ba;rw[List.mem_map];constructor
 ·rintro⟨n,h1,rfl⟩;rw[List.mem_filter]at h1;exact(@decide_eq_true_iff _ (Classical.propDecidable _)).1 h1.2
 ·intro h;obtain⟨h1,h2⟩:=c9 (h.kind hl);refine⟨k.toNat,List.mem_filter.2 ⟨by rw[List.mem_range];exact h2,?_⟩,by omega⟩;rw[show((k.toNat:Nat):Int)=k by omega];exact(@decide_eq_true_iff _ (Classical.propDecidable _)).2 h
theorem y9{l:List Ob}{ids:List Int}:(ba l ids).Pairwise (· < ·):=by
 unfold ba;rw[List.pairwise_map];have:=(List.pairwise_lt_range (n:=l.length)).filter (fun k:Nat=> @decide (ca l ids (k:Int)) (Classical.propDecidable _));exact this.imp (fun h=>by omega)
theorem mQ{l:List Ob}{ids:List Int}:(ba l ids).length≤l.length:=by
 unfold ba;rw[List.length_map];exact Nat.le_trans (List.length_filter_le _ _) (by simp)
end Go.Nest
end
section
namespace Go.Nest
open Go Go.AM Go.Proofs
open Go.Proofs.YtpechfcbnoggfaaGreatDoor (tab tabOk)
set_option maxRecDepth 4000
theorem EO:ae Tryz.prog 49 [] [] (Rt (.c (.ptr 0 0)) [.box [.rw 1],.row 6 Ob an []]):=by
 refine ao (n:=3) (n0:=0) tabOk Tryz.call49 Tryz.func49 ?_;intro hb;(conv=>whnf);exact rx [] [.same 0,.new]
theorem fJ(l:List Ob)(hl:aj l)(id:Int):ae Tryz.prog 166 [.c (.bp [.bs 6 Ob an l]),.c (.int .i64 id)] [] (Rt (.tup [(true,an (ai l id)),(false,[.bool (decide (kindOf l id≠0))])]) []):=by
 refine ao (n:=19) (n0:=0) tabOk Tryz.call166 Tryz.func166 ?_;intro hb;skip;(conv=>whnf);refine cl [] [] (mz l id) ?_;repeat'((conv=>whnf);first|(refine dec (fun h=>?_) (fun h=>?_)<;>try contradiction)|fail)
 ·rw[hl.kz h,h];(conv=>whnf);exact rx [] []
 ·obtain⟨h1,h2⟩:=c9 h;have hk:=hl.get h;rw[show decide (kindOf l id≠0)=true from decide_eq_true h];rw[jg h1 h2]at hk⊢;(conv=>whnf);refine⟨id.toNat,l[id.toNat],by omega,List.getElem?_eq_getElem h2,?_⟩;skip;(conv=>whnf);refine cl [] [] (yK l[id.toNat] (by have:=hk.bytes;omega) (by have:=hk.entries;omega) (by have:=hk.parents;omega)) ?_;(conv=>whnf);exact rx [] []
theorem CH{es:List aB}{i:Nat}(h:i<es.length):((es.take (i+1)).filter fun e=>decide (e.mode≠3)).map (·.id)=((es.take i).filter fun e=>decide (e.mode≠3)).map (·.id)++(if es[i].mode=3 then[]else[es[i].id]):=by
 rw[List.take_succ_eq_append_getElem h,List.filter_append,List.map_append];congr 1
 by_cases h3:es[i].mode=3<;>simp[h3]
theorem wQ{es:List aB}{i:Nat}(h:es.length≤60):(((es.take i).filter fun e=>decide (e.mode≠3)).map (·.id)).length≤60:=by
 rw[List.length_map];refine Nat.le_trans (List.length_filter_le _ _) ?_;rw[List.length_take];omega
set_option maxHeartbeats 1000000 in
theorem ES(l:List Ob)(hl:aj l)(id:Int):ae Tryz.prog 104 [.c (.bp [.bs 6 Ob an l]),.c (.int .i64 id)] [] (Rt (.c (.rw 0)) [.row 1 Int encI (dz l id)]):=by
 refine kg (n:=46) (n0:=0) tabOk Tryz.call104 Tryz.func104 ?_;intro hb;refine XM.seq ?_;skip;refine XM.seq ?_;skip;(conv=>whnf);refine cl [] [] (fJ l hl id) ?_;skip;refine XM.seq ?_;repeat'((conv=>whnf);first|(refine av (fun h=>?_) (fun h=>?_)<;>try contradiction)|fail)
 ·(conv=>whnf);rw[show dz l id=[]by unfold dz;rw[hl.kz (Decidable.not_not.1 h)];rfl];exact rx [] [.new]
 have hk:=hl.get h;have he:=hk.entries;refine XM.seq ?_;skip;refine XM.join (ι:=Unit) (fun _=>⟨[(5,.c (.ptr 0 0)),(7,.c (.rw 1))],[.box (an (ai l id)),.row 1 Int encI (((ai l id).entries.filter fun e=>decide (e.mode≠3)).map (·.id))]⟩) (fun _=>True) ?_ (fun _ _=>?_)
 ·(conv=>whnf)
  refine lp Nat (fun i => ⟨[(5,.c (.ptr 0 0)),(7,.c (.rw 1)),(19,.c (.bs 4 aB cm (ai l id).entries)),(20,.c (.int .i64 (ai l id).entries.length)),(21,.c (.int .i64 i))],
   [.box (an (ai l id)),.row 1 Int encI ((((ai l id).entries.take i).filter fun e=>decide (e.mode≠3)).map (·.id))]⟩) (fun i=>i≤(ai l id).entries.length∧True) (fun i=>(ai l id).entries.length-i) 0 [] [.same 0,.new] ?_ ?_ (fun i hi=>?_)
  ·exact⟨Nat.zero_le _,trivial⟩
  ·repeat' first|exact trivial|exact rfl|refine And.intro ?_ ?_
  (conv=>whnf);refine dec (fun h4=>?_) (fun h4=>?_)
  ·have hlt:i<(ai l id).entries.length:=by omega
   have hs:=CH hlt;have hle:=wQ (i:=i) hk.entries;repeat'((conv=>whnf);first|(refine av (fun h=>?_) (fun h=>?_)<;>try contradiction)|refine⟨i64 (by omega) (by omega),?_⟩|refine⟨_,_,rfl,List.getElem?_eq_getElem (by omega),?_⟩|fail)
   ·rw[if_neg h]at hs;(conv=>whnf);refine⟨[(ai l id).entries[i].id],rfl,?_⟩;(conv=>whnf);refine⟨_,_,rfl,rfl,(by simp only[List.length_append,List.length_cons,List.length_nil];omega),?_⟩;repeat'((conv=>whnf);refine I6 ?_)
    refine ag (i+1) [] [.same 0,.same 4] ⟨hlt,trivial⟩ (by simp only[];omega) ?_;repeat' first|exact trivial|exact rfl|refine And.intro ?_ ?_
    rw[hs];exact rfl
   ·rw[if_pos h,List.append_nil]at hs;skip;refine ag (i+1) [] [.same 0,.same 1] ⟨hlt,trivial⟩ (by simp only[];omega) ?_;repeat' first|exact trivial|exact rfl|refine And.intro ?_ ?_
    rw[hs];exact rfl
  ·have:(ai l id).entries.take i=(ai l id).entries:=List.take_of_length_le (by omega);rw[this];(conv=>whnf);refine⟨(),trivial,[],[.same 0,.same 1],?_⟩;repeat' first|exact trivial|exact rfl|refine And.intro ?_ ?_
 have hle:=wQ (i:=(ai l id).entries.length) hk.entries;rw[List.take_length]at hle;have hp:=hk.parents;refine XM.join (ι:=Unit) (fun _=>⟨[(5,.c (.ptr 0 0)),(7,.c (.rw 1))],[.box (an (ai l id)),.row 1 Int encI (((ai l id).entries.filter fun e=>decide (e.mode≠3)).map (·.id)++(if(ai l id).kind=3 then[(ai l id).tree]else[]))]⟩) (fun _=>True) ?_ (fun _ _=>?_)
 ·repeat'((conv=>whnf);first|(refine dec (fun h=>?_) (fun h=>?_)<;>try contradiction)|fail)
  ·(conv=>whnf);refine⟨[(ai l id).tree],rfl,?_⟩;(conv=>whnf);refine⟨_,_,rfl,rfl,(by simp only[List.length_append,List.length_cons,List.length_nil];omega),?_⟩;(conv=>whnf);rw[if_pos ‹(ai l id).kind=3›];refine⟨(),trivial,[],[.same 0,.same 3],?_⟩;repeat' first|exact trivial|exact rfl|refine And.intro ?_ ?_
  ·(conv=>whnf);rw[if_neg ‹¬(ai l id).kind=3›,List.append_nil];refine⟨(),trivial,[],[.same 0,.same 1],?_⟩;repeat' first|exact trivial|exact rfl|refine And.intro ?_ ?_
 have h1:(if(ai l id).kind=3 then[(ai l id).tree]else[]).length≤1:=by split<;>simp
 refine XM.of ?_;(conv=>whnf);refine⟨_,_,rfl,rfl,(by simp only[List.length_append,List.length_cons,List.length_nil];omega),?_⟩;(conv=>whnf);rw[show dz l id=_ from(List.append_assoc _ _ _).symm];exact rx [] [.same 2]
end Go.Nest
end
section
namespace Go.Nest
open Go Go.AM Go.Proofs
open Go.Proofs.YtpechfcbnoggfaaGreatDoor (tab tabOk)
set_option maxRecDepth 4000
theorem Ft(x o:Ob):ae Tryz.prog 273 [.st (fS x),.c (.bp (fS o))] [] (Rt (.c (.bool (decide (x=o)))) []):=by
 refine ao (n:=7) (n0:=0) tabOk Tryz.call273 Tryz.func273 ?_;intro hb;(conv=>whnf);refine cl [] [] (Gl x o) ?_;repeat'((conv=>whnf);first|refine aC ?_|fail)
 rfl
theorem Dz(l:List Ob)(o:Ob):ae Tryz.prog 272 [.c (.bs 6 Ob an l),.c (.fn 273 [.bp (fS o)])] [] (Rt (.c (.int .i64 (bH (fun x=>decide (x=o)) l))) []):=by
 refine ao (n:=19) (n0:=0) tabOk Tryz.call272 Tryz.func272 ?_;intro hb;have hb:l.length≤9223372036854775807:=hb.1.1;(conv=>whnf);refine lp Nat (fun i=>⟨[(0,.c (.bs 6 Ob an l)),(1,.c (.fn 273 [.bp (fS o)])),(7,.c (.int .i64 l.length)),(8,.c (.int .i64 i))],[]⟩) (fun i=>i≤l.length∧(l.take i).any (fun x=>decide (x=o))=false) (fun i=>l.length-i) 0 [] [] ?_ ?_ (fun i hi=>?_)
 ·simp
 ·repeat' first|exact trivial|exact rfl|refine And.intro ?_ ?_
 (conv=>whnf);refine dec (fun h4=>?_) (fun h4=>?_)
 ·have hlt:i<l.length:=by omega
  repeat'((conv=>whnf);first|refine⟨_,_,rfl,List.getElem?_eq_getElem (by omega),?_⟩|fail)
  (conv=>whnf);refine cl [] [] (Ft l[i] o) ?_;repeat'((conv=>whnf);first|(refine dec (fun h=>?_) (fun h=>?_)<;>try contradiction)|refine⟨i64 (by omega) (by omega),?_⟩|refine aI ?_|fail)
  ·exact jj hlt hi.2 (by simpa using h)
  ·refine ag (i+1) [] [] ⟨hlt,gq hlt hi.2 (by simpa using h)⟩ (by simp only[];omega) ?_;repeat' first|exact trivial|exact rfl|refine And.intro ?_ ?_
 ·repeat'((conv=>whnf);first|refine aI ?_|fail)
  have:=hi.2;rw[List.take_of_length_le (by omega)]at this;exact jM this
theorem oB(l:List Ob)(o:Ob)(hl:l.length≤600):ae Tryz.prog 203 [.c (.ptr 0 0),.st (fS o)] [.box [.rw 1],.row 6 Ob an l] (Rt (.tup [(false,[.int .i64 (aA l o).1]),(false,[.int .i64 (aA l o).2.1])]) [.box [.rw 2],.dead,.row 6 Ob an (aA l o).2.2]):=by
 refine kg (n:=49) (n0:=2) tabOk Tryz.call203 Tryz.func203 ?_;intro hb;refine XM.seq ?_;skip;refine XM.seq ?_;(conv=>whnf);refine cl [] [] (A8 o) ?_;repeat'((conv=>whnf);first|(refine av (fun h=>?_) (fun h=>?_)<;>try contradiction)|fail)
 ·have hp:aA l o=(0,bZ o,l):=by unfold aA;rw[if_pos h]
  rw[hp];(conv=>whnf);exact rx [] [.same 0,.same 1,.same 1]
 have h1:bZ o=0:=by simpa using h
 have hk:=oo h1;refine XM.seq ?_;skip;(conv=>whnf);refine cl [] [] (D3 l o hk.tI) ?_;repeat'((conv=>whnf);first|refine df (fun h=>?_) (fun h=>?_)|fail)
 ·have hp:aA l o=(0,14,l):=by unfold aA;rw[if_neg (by simpa using h1),if_pos h]
  rw[hp];(conv=>whnf);exact rx [] [.same 0,.same 1,.same 1]
 have h2:=h;refine XM.seq ?_;skip;(conv=>whnf);refine cl [] [] (Dz l o) ?_;repeat'((conv=>whnf);first|(refine dec (fun h=>?_) (fun h=>?_)<;>try contradiction)|fail)
 ·have h3:=h;have hp:aA l o=(bH (fun x=>decide (x=o)) l,0,l):=by unfold aA;rw[if_neg (by simpa using h1),if_neg (by simp[h2]),if_pos h3]
  rw[hp];(conv=>whnf);exact rx [] [.same 0,.same 1,.same 1]
 have h3:=h;refine XM.seq ?_;repeat'((conv=>whnf);first|(refine dec (fun h=>?_) (fun h=>?_)<;>try contradiction)|fail)
 ·have h4:=h;have hp:aA l o=(0,15,l):=by unfold aA;rw[if_neg (by simpa using h1),if_neg (by simp[h2]),if_neg h3,if_pos (by omega)]
  rw[hp];(conv=>whnf);exact rx [] [.same 0,.same 1,.same 1]
 have h4:=h;have hp:aA l o=(((l++[o]).length:Int)-1,0,l++[o]):=by unfold aA;rw[if_neg (by simpa using h1),if_neg (by simp[h2]),if_neg h3,if_neg (by omega)];simp
 rw[hp];refine XM.of ?_;(conv=>whnf);refine⟨false,.grow,(.l [0,1,2,3,4,5,6,7,8,9,10,11]),by kernel_rfl,.inl ?_⟩;skip;(conv=>whnf);refine cl [] [] (yK o (by have:=hk.bytes;omega) (by have:=hk.entries;omega) (by have:=hk.parents;omega)) ?_;(conv=>whnf);refine⟨[o],rfl,?_⟩;(conv=>whnf);refine⟨_,_,rfl,rfl,(by simp only[List.length_append,List.length_cons,List.length_nil];omega),?_⟩;have hs:(l++[o]).length≤600:=by rw[List.length_append,List.length_singleton];omega
 repeat'((conv=>whnf);refine I6 ?_)
 (conv=>whnf);exact rx [] [.same 0,.same 1,.same 4]
end Go.Nest
end
