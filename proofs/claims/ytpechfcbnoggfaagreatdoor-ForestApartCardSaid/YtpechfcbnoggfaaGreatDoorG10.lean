/- part -/
import Derived.Test.YtpechfcbnoggfaaGreatDoorAmH
import Derived.Test.YtpechfcbnoggfaaGreatDoorProg
import Derived.KernelRfl
set_option linter.unusedVariables false
set_option linter.unusedSimpArgs false
section
namespace Go.Proofs.YtpechfcbnoggfaaGreatDoor
open Go Go.AM Go.Nest
def Kd:List (Nat×TD):=[
 (2,⟨1,false,8,(.int .i64),[.int .i64 0],false,Int,encI⟩),
 (3,⟨1,false,8,(.int .i64),[.int .i64 0],false,Int,encI⟩),
 (4,⟨1,false,1,.bool,[.bool false],false,Bool,aj⟩),
 (5,⟨1,false,1,(.int .u8),[.int .u8 0],false,UInt8,bD⟩),
 (9,⟨1,false,16,.str,[.str []],false,(List UInt8),encS⟩),
 (21,⟨1,false,4,(.int .i32),[.int .i32 0],false,Unit,(fun _=>[])⟩),
 (22,⟨1,false,24,(.sl 9),[.nil],false,(List (List UInt8)),(bG 1 encS)⟩),
 (25,⟨1,false,8,(.int .u64),[.int .u64 0],false,Unit,(fun _=>[])⟩),
 (29,⟨2,true,16,(.struct [(3,0),(3,1)]),[.int .i64 0,.int .i64 0],false,Unit,(fun _=>[])⟩),
 (33,⟨1,false,24,(.sl 5),[.nil],false,(List UInt8),(bG 1 bD)⟩),
 (39,⟨1,false,24,(.sl 44),[.nil],false,(List Unit),(bG 7 (fun _=>[]))⟩),
 (41,⟨1,false,8,.ptr,[.raw (.pointer none)],false,Unit,(fun _=>[])⟩),
 (44,⟨7,true,96,(.struct [(3,0),(3,1),(3,2),(9,3),(9,4),(9,5),(33,6)]),[.int .i64 0,.int .i64 0,.int .i64 0,.str [],.str [],.str [],.nil],false,Unit,(fun _=>[])⟩),
 (46,⟨3,true,40,(.struct [(3,0),(3,1),(22,2)]),[.int .i64 0,.int .i64 0,.nil],false,Unit,(fun _=>[])⟩),
 (50,⟨1,false,24,(.sl 126),[.nil],false,(List Dc),(bG 2 eY)⟩),
 (52,⟨1,false,24,(.sl 100),[.nil],false,(List Rf),(bG 2 bH)⟩),
 (55,⟨4,true,96,(.arr 4 50),[.nil,.nil,.nil,.nil],false,Unit,(fun _=>[])⟩),
 (56,⟨4,true,32,(.arr 4 3),[.int .i64 0,.int .i64 0,.int .i64 0,.int .i64 0],false,Unit,(fun _=>[])⟩),
 (57,⟨1,false,24,(.sl 3),[.nil],false,(List Int),(bG 1 encI)⟩),
 (58,⟨4,true,96,(.arr 4 57),[.nil,.nil,.nil,.nil],false,Unit,(fun _=>[])⟩),
 (61,⟨1,false,8,.ptr,[.raw (.pointer none)],false,Unit,(fun _=>[])⟩),
 (62,⟨1,false,8,.ptr,[.raw (.pointer none)],false,Unit,(fun _=>[])⟩),
 (63,⟨1,false,8,.ptr,[.raw (.pointer none)],false,Unit,(fun _=>[])⟩),
 (65,⟨2,true,16,(.struct [(62,0),(63,1)]),[.raw (.pointer none),.raw (.pointer none)],false,Unit,(fun _=>[])⟩),
 (66,⟨8,true,64,(.arr 4 65),[.raw (.pointer none),.raw (.pointer none),.raw (.pointer none),.raw (.pointer none),.raw (.pointer none),.raw (.pointer none),.raw (.pointer none),.raw (.pointer none)],false,Unit,(fun _=>[])⟩),
 (68,⟨9,true,72,(.struct [(61,0),(66,1)]),[.raw (.pointer none),.raw (.pointer none),.raw (.pointer none),.raw (.pointer none),.raw (.pointer none),.raw (.pointer none),.raw (.pointer none),.raw (.pointer none),.raw (.pointer none)],false,Unit,(fun _=>[])⟩),
 (71,⟨1,false,8,.ptr,[.raw (.pointer none)],false,Unit,(fun _=>[])⟩),
 (75,⟨1,false,24,(.sl 163),[.nil],false,(List Ch),(bG 9 yH)⟩),
 (78,⟨1,false,8,.ptr,[.raw (.pointer none)],false,Unit,(fun _=>[])⟩),
 (79,⟨1,false,8,.ptr,[.raw (.pointer none)],false,Unit,(fun _=>[])⟩),
 (80,⟨1,false,8,.ptr,[.raw (.pointer none)],false,Unit,(fun _=>[])⟩),
 (81,⟨4,true,32,(.arr 4 80),[.raw (.pointer none),.raw (.pointer none),.raw (.pointer none),.raw (.pointer none)],false,Unit,(fun _=>[])⟩),
 (82,⟨4,true,32,(.arr 4 78),[.raw (.pointer none),.raw (.pointer none),.raw (.pointer none),.raw (.pointer none)],false,Unit,(fun _=>[])⟩),
 (84,⟨9,true,72,(.struct [(79,0),(81,1),(82,5)]),[.raw (.pointer none),.raw (.pointer none),.raw (.pointer none),.raw (.pointer none),.raw (.pointer none),.raw (.pointer none),.raw (.pointer none),.raw (.pointer none),.raw (.pointer none)],false,Unit,(fun _=>[])⟩),
 (87,⟨1,false,24,(.sl 89),[.nil],false,(List (List Fi)),(bG 1 (bG 4 aA))⟩),
 (88,⟨4,true,96,(.arr 4 87),[.nil,.nil,.nil,.nil],false,Unit,(fun _=>[])⟩),
 (89,⟨1,false,24,(.sl 161),[.nil],false,(List Fi),(bG 4 aA)⟩),
 (94,⟨1,false,8,.ptr,[.raw (.pointer none)],false,Unit,(fun _=>[])⟩),
 (95,⟨1,false,24,(.sl 4),[.nil],false,(List Bool),(bG 1 aj)⟩),
 (96,⟨4,true,96,(.arr 4 95),[.nil,.nil,.nil,.nil],false,Unit,(fun _=>[])⟩),
 (98,⟨9,true,200,(.struct [(94,0),(96,1),(58,5)]),[.raw (.pointer none),.nil,.nil,.nil,.nil,.nil,.nil,.nil,.nil],false,Unit,(fun _=>[])⟩),
 (100,⟨2,true,24,(.struct [(9,0),(3,1)]),[.str [],.int .i64 0],false,Rf,bH⟩),
 (104,⟨1,false,24,(.sl 22),[.nil],false,(List (List (List UInt8))),(bG 1 (bG 1 encS))⟩),
 (107,⟨1,false,8,.ptr,[.raw (.pointer none)],false,Unit,(fun _=>[])⟩),
 (109,⟨2,true,32,(.struct [(107,0),(33,1)]),[.raw (.pointer none),.nil],false,Unit,(fun _=>[])⟩),
 (111,⟨3,true,40,(.struct [(109,0),(41,2)]),[.raw (.pointer none),.nil,.raw (.pointer none)],false,Unit,(fun _=>[])⟩),
 (126,⟨2,true,40,(.struct [(9,0),(33,1)]),[.str [],.nil],false,Dc,eY⟩),
 (132,⟨1,false,8,.ptr,[.raw (.pointer none)],false,Unit,(fun _=>[])⟩),
 (133,⟨1,false,24,(.sl 158),[.nil],false,(List Ob),(bG 6 ak)⟩),
 (135,⟨1,true,24,(.struct [(133,0)]),[.nil],false,Unit,(fun _=>[])⟩),
 (137,⟨9,true,200,(.struct [(132,0),(58,1),(58,5)]),[.raw (.pointer none),.nil,.nil,.nil,.nil,.nil,.nil,.nil,.nil],false,Unit,(fun _=>[])⟩),
 (138,⟨1,false,24,(.sl 220),[.nil],false,(List Mv),(bG 3 cY)⟩),
 (140,⟨1,true,24,(.struct [(138,0)]),[.nil],false,Unit,(fun _=>[])⟩),
 (141,⟨1,false,24,(.sl 211),[.nil],false,(List It),(bG 5 aM)⟩),
 (143,⟨3,true,40,(.struct [(132,0),(141,1),(3,2)]),[.raw (.pointer none),.nil,.int .i64 0],false,Unit,(fun _=>[])⟩),
 (151,⟨1,false,24,(.sl 153),[.nil],false,(List Rf),(bG 2 bH)⟩),
 (153,⟨2,true,24,(.struct [(9,0),(3,1)]),[.str [],.int .i64 0],false,Rf,bH⟩),
 (156,⟨1,false,24,(.sl 237),[.nil],false,(List aF),(bG 4 cX)⟩),
 (158,⟨6,true,104,(.struct [(3,0),(33,1),(156,2),(3,3),(57,4),(9,5)]),[.int .i64 0,.nil,.nil,.int .i64 0,.nil,.str []],false,Ob,ak⟩),
 (161,⟨4,true,40,(.struct [(9,0),(3,1),(3,2),(3,3)]),[.str [],.int .i64 0,.int .i64 0,.int .i64 0],true,Fi,aA⟩),
 (163,⟨9,true,96,(.struct [(9,0),(161,1),(161,5)]),[.str [],.str [],.int .i64 0,.int .i64 0,.int .i64 0,.str [],.int .i64 0,.int .i64 0,.int .i64 0],true,Ch,yH⟩),
 (169,⟨1,true,24,(.struct [(133,0)]),[.nil],false,Unit,(fun _=>[])⟩),
 (172,⟨2,true,24,(.struct [(9,0),(71,1)]),[.str [],.raw (.pointer none)],false,Unit,(fun _=>[])⟩),
 (183,⟨1,false,8,.ptr,[.raw (.pointer none)],false,Unit,(fun _=>[])⟩),
 (184,⟨1,false,24,(.sl 262),[.nil],false,(List Mv),(bG 3 cY)⟩),
 (186,⟨2,true,48,(.struct [(52,0),(184,1)]),[.nil,.nil],false,Unit,(fun _=>[])⟩),
 (187,⟨1,false,24,(.sl 193),[.nil],false,(List It),(bG 5 aM)⟩),
 (189,⟨3,true,40,(.struct [(94,0),(187,1),(3,2)]),[.raw (.pointer none),.nil,.int .i64 0],false,Unit,(fun _=>[])⟩),
 (193,⟨5,true,64,(.struct [(9,0),(33,1),(4,2),(3,3),(3,4)]),[.str [],.ls 1 UInt8 bD [],.bool false,.int .i64 0,.int .i64 0],false,It,aM⟩),
 (211,⟨5,true,64,(.struct [(9,0),(33,1),(4,2),(3,3),(3,4)]),[.str [],.ls 1 UInt8 bD [],.bool false,.int .i64 0,.int .i64 0],false,It,aM⟩),
 (220,⟨3,true,32,(.struct [(9,0),(3,1),(3,2)]),[.str [],.int .i64 0,.int .i64 0],false,Mv,cY⟩),
 (223,⟨1,false,24,(.sl 57),[.nil],false,(List (List Int)),(bG 1 (bG 1 encI))⟩),
 (237,⟨4,true,40,(.struct [(9,0),(3,1),(3,2),(3,3)]),[.str [],.int .i64 0,.int .i64 0,.int .i64 0],true,aF,cX⟩),
 (241,⟨1,false,16,.ky,[.raw .nilIface],false,Unit,(fun _=>[])⟩),
 (256,⟨3,true,72,(.arr 3 89),[.nil,.nil,.nil],false,(Int×Int×Int),uv⟩),
 (262,⟨3,true,32,(.struct [(9,0),(3,1),(3,2)]),[.str [],.int .i64 0,.int .i64 0],false,Mv,cY⟩),
 (266,⟨3,true,48,(.struct [(94,0),(9,1),(223,2)]),[.raw (.pointer none),.str [],.nil],false,Unit,(fun _=>[])⟩),
 (268,⟨1,false,24,(.sl 270),[.nil],false,(List (Int×Int)),(bG 2 jE)⟩),
 (270,⟨2,true,16,(.arr 2 3),[.int .i64 0,.int .i64 0],false,(Int×Int),jE⟩),
 (272,⟨1,false,8,(.int .i64),[.int .i64 0],false,Int,encI⟩),
 (279,⟨1,false,4,(.int .u32),[.int .u32 0],false,Unit,(fun _=>[])⟩),
 (281,⟨1,false,8,(.int .u64),[.int .u64 0],false,Unit,(fun _=>[])⟩),
 (286,⟨1,false,24,(.sl 33),[.nil],false,(List (List UInt8)),(bG 1 (bG 1 bD))⟩),
 (307,⟨4,true,64,(.struct [(94,0),(89,1),(22,2),(3,3)]),[.raw (.pointer none),.nil,.nil,.int .i64 0],false,Unit,(fun _=>[])⟩),
 (315,⟨1,false,8,(.int .u64),[.int .u64 0],false,Unit,(fun _=>[])⟩),
 (322,⟨1,false,24,(.sl 327),[.nil],false,(List (Int×Int)),(bG 2 jE)⟩),
 (324,⟨3,true,24,(.arr 3 3),[.int .i64 0,.int .i64 0,.int .i64 0],false,(Int×Int×Int),uv⟩),
 (325,⟨1,false,24,(.sl 324),[.nil],false,(List (Int×Int×Int)),(bG 3 uv)⟩),
 (327,⟨2,true,16,(.struct [(3,0),(3,1)]),[.int .i64 0,.int .i64 0],false,(Int×Int),jE⟩),
 (334,⟨1,false,8,(.int .i64),[.int .i64 0],false,Int,encI⟩),
 (337,⟨1,false,8,.ptr,[.raw (.pointer none)],false,Unit,(fun _=>[])⟩),
 (343,⟨1,false,8,.other,[.raw (.pointer none)],false,Unit,(fun _=>[])⟩),
 (345,⟨4,true,64,(.arr 4 9),[.str [],.str [],.str [],.str []],false,Unit,(fun _=>[])⟩),
 (363,⟨3,true,48,(.struct [(9,0),(9,1),(241,2)]),[.str [],.str [],.raw .nilIface],false,Unit,(fun _=>[])⟩),
 (374,⟨1,false,8,.ptr,[.raw (.pointer none)],false,Unit,(fun _=>[])⟩),
 (376,⟨1,true,16,(.struct [(9,0)]),[.str []],false,Unit,(fun _=>[])⟩),
 (386,⟨1,false,24,(.sl 395),[.nil],false,(List (Int×Int)),(bG 2 jE)⟩),
 (395,⟨2,true,16,(.struct [(3,0),(3,1)]),[.int .i64 0,.int .i64 0],false,(Int×Int),jE⟩),
 (401,⟨2,true,2,(.struct [(5,0),(5,1)]),[.int .u8 0,.int .u8 0],false,Unit,(fun _=>[])⟩)]
def tab:Nat→Option TD:=oA Kd
set_option maxRecDepth 20000 in
theorem tabOk : bB Tryz.prog tab := Ke ⟨aC Tryz.typeInfo2 Tryz.isAgg2 Tryz.underlying2,
 aC Tryz.typeInfo3 Tryz.isAgg3 Tryz.underlying3,
 aC Tryz.typeInfo4 Tryz.isAgg4 Tryz.underlying4,
 aC Tryz.typeInfo5 Tryz.isAgg5 Tryz.underlying5,
 aC Tryz.typeInfo9 Tryz.isAgg9 Tryz.underlying9,
 aC Tryz.typeInfo21 Tryz.isAgg21 Tryz.underlying21,
 aC Tryz.typeInfo22 Tryz.isAgg22 Tryz.underlying22,
 aC Tryz.typeInfo25 Tryz.isAgg25 Tryz.underlying25,
 aC Tryz.typeInfo29 Tryz.isAgg29 ⟨_,Tryz.underlying29,rfl,rfl⟩,
 aC Tryz.typeInfo33 Tryz.isAgg33 Tryz.underlying33,
 aC Tryz.typeInfo39 Tryz.isAgg39 Tryz.underlying39,
 aC Tryz.typeInfo41 Tryz.isAgg41 ⟨_,Tryz.underlying41⟩,
 aC Tryz.typeInfo44 Tryz.isAgg44 ⟨_,Tryz.underlying44,rfl,rfl⟩,
 aC Tryz.typeInfo46 Tryz.isAgg46 ⟨_,Tryz.underlying46,rfl,rfl⟩,
 aC Tryz.typeInfo50 Tryz.isAgg50 Tryz.underlying50,
 aC Tryz.typeInfo52 Tryz.isAgg52 Tryz.underlying52,
 aC Tryz.typeInfo55 Tryz.isAgg55 Tryz.underlying55,
 aC Tryz.typeInfo56 Tryz.isAgg56 Tryz.underlying56,
 aC Tryz.typeInfo57 Tryz.isAgg57 Tryz.underlying57,
 aC Tryz.typeInfo58 Tryz.isAgg58 Tryz.underlying58,
 aC Tryz.typeInfo61 Tryz.isAgg61 ⟨_,Tryz.underlying61⟩,
 aC Tryz.typeInfo62 Tryz.isAgg62 ⟨_,Tryz.underlying62⟩,
 aC Tryz.typeInfo63 Tryz.isAgg63 ⟨_,Tryz.underlying63⟩,
 aC Tryz.typeInfo65 Tryz.isAgg65 ⟨_,Tryz.underlying65,rfl,rfl⟩,
 aC Tryz.typeInfo66 Tryz.isAgg66 Tryz.underlying66,
 aC Tryz.typeInfo68 Tryz.isAgg68 ⟨_,Tryz.underlying68,rfl,rfl⟩,
 aC Tryz.typeInfo71 Tryz.isAgg71 ⟨_,Tryz.underlying71⟩,
 aC Tryz.typeInfo75 Tryz.isAgg75 Tryz.underlying75,
 aC Tryz.typeInfo78 Tryz.isAgg78 ⟨_,Tryz.underlying78⟩,
 aC Tryz.typeInfo79 Tryz.isAgg79 ⟨_,Tryz.underlying79⟩,
 aC Tryz.typeInfo80 Tryz.isAgg80 ⟨_,Tryz.underlying80⟩,
 aC Tryz.typeInfo81 Tryz.isAgg81 Tryz.underlying81,
 aC Tryz.typeInfo82 Tryz.isAgg82 Tryz.underlying82,
 aC Tryz.typeInfo84 Tryz.isAgg84 ⟨_,Tryz.underlying84,rfl,rfl⟩,
 aC Tryz.typeInfo87 Tryz.isAgg87 Tryz.underlying87,
 aC Tryz.typeInfo88 Tryz.isAgg88 Tryz.underlying88,
 aC Tryz.typeInfo89 Tryz.isAgg89 Tryz.underlying89,
 aC Tryz.typeInfo94 Tryz.isAgg94 ⟨_,Tryz.underlying94⟩,
 aC Tryz.typeInfo95 Tryz.isAgg95 Tryz.underlying95,
 aC Tryz.typeInfo96 Tryz.isAgg96 Tryz.underlying96,
 aC Tryz.typeInfo98 Tryz.isAgg98 ⟨_,Tryz.underlying98,rfl,rfl⟩,
 aC Tryz.typeInfo100 Tryz.isAgg100 ⟨_,Tryz.underlying100,rfl,rfl⟩,
 aC Tryz.typeInfo104 Tryz.isAgg104 Tryz.underlying104,
 aC Tryz.typeInfo107 Tryz.isAgg107 ⟨_,Tryz.underlying107⟩,
 aC Tryz.typeInfo109 Tryz.isAgg109 ⟨_,Tryz.underlying109,rfl,rfl⟩,
 aC Tryz.typeInfo111 Tryz.isAgg111 ⟨_,Tryz.underlying111,rfl,rfl⟩,
 aC Tryz.typeInfo126 Tryz.isAgg126 ⟨_,Tryz.underlying126,rfl,rfl⟩,
 aC Tryz.typeInfo132 Tryz.isAgg132 ⟨_,Tryz.underlying132⟩,
 aC Tryz.typeInfo133 Tryz.isAgg133 Tryz.underlying133,
 aC Tryz.typeInfo135 Tryz.isAgg135 ⟨_,Tryz.underlying135,rfl,rfl⟩,
 aC Tryz.typeInfo137 Tryz.isAgg137 ⟨_,Tryz.underlying137,rfl,rfl⟩,
 aC Tryz.typeInfo138 Tryz.isAgg138 Tryz.underlying138,
 aC Tryz.typeInfo140 Tryz.isAgg140 ⟨_,Tryz.underlying140,rfl,rfl⟩,
 aC Tryz.typeInfo141 Tryz.isAgg141 Tryz.underlying141,
 aC Tryz.typeInfo143 Tryz.isAgg143 ⟨_,Tryz.underlying143,rfl,rfl⟩,
 aC Tryz.typeInfo151 Tryz.isAgg151 Tryz.underlying151,
 aC Tryz.typeInfo153 Tryz.isAgg153 ⟨_,Tryz.underlying153,rfl,rfl⟩,
 aC Tryz.typeInfo156 Tryz.isAgg156 Tryz.underlying156,
 aC Tryz.typeInfo158 Tryz.isAgg158 ⟨_,Tryz.underlying158,rfl,rfl⟩,
 aC Tryz.typeInfo161 Tryz.isAgg161 ⟨_,Tryz.underlying161,rfl,rfl⟩ (fun _=>⟨by kernel_rfl,by exact(dg.struct (by kernel_rfl) (by kernel_rfl) (by rw[pq Tryz.underlying161];exact⟨false,[.str []],_,rfl,by decide,rfl,Tryz.isAgg9,fB Tryz.typeInfo9 rfl,by decide,(dg.str Tryz.underlying9),⟨false,[.int .i64 0],_,rfl,by decide,rfl,Tryz.isAgg3,fB Tryz.typeInfo3 rfl,by decide,(dg.int Tryz.underlying3),⟨false,[.int .i64 0],_,rfl,by decide,rfl,Tryz.isAgg3,fB Tryz.typeInfo3 rfl,by decide,(dg.int Tryz.underlying3),⟨false,[.int .i64 0],_,rfl,by decide,rfl,Tryz.isAgg3,fB Tryz.typeInfo3 rfl,by decide,(dg.int Tryz.underlying3),rfl⟩⟩⟩⟩))⟩),
 aC Tryz.typeInfo163 Tryz.isAgg163 ⟨_,Tryz.underlying163,rfl,rfl⟩ (fun _=>⟨by kernel_rfl,by exact(dg.struct (by kernel_rfl) (by kernel_rfl) (by rw[pq Tryz.underlying163];exact⟨false,[.str []],_,rfl,by decide,rfl,Tryz.isAgg9,fB Tryz.typeInfo9 rfl,by decide,(dg.str Tryz.underlying9),⟨true,[.str [],.int .i64 0,.int .i64 0,.int .i64 0],_,rfl,by decide,rfl,Tryz.isAgg161,fB Tryz.typeInfo161 rfl,by decide,(dg.struct (by kernel_rfl) (by kernel_rfl) (by rw[pq Tryz.underlying161];exact⟨false,[.str []],_,rfl,by decide,rfl,Tryz.isAgg9,fB Tryz.typeInfo9 rfl,by decide,(dg.str Tryz.underlying9),⟨false,[.int .i64 0],_,rfl,by decide,rfl,Tryz.isAgg3,fB Tryz.typeInfo3 rfl,by decide,(dg.int Tryz.underlying3),⟨false,[.int .i64 0],_,rfl,by decide,rfl,Tryz.isAgg3,fB Tryz.typeInfo3 rfl,by decide,(dg.int Tryz.underlying3),⟨false,[.int .i64 0],_,rfl,by decide,rfl,Tryz.isAgg3,fB Tryz.typeInfo3 rfl,by decide,(dg.int Tryz.underlying3),rfl⟩⟩⟩⟩)),⟨true,[.str [],.int .i64 0,.int .i64 0,.int .i64 0],_,rfl,by decide,rfl,Tryz.isAgg161,fB Tryz.typeInfo161 rfl,by decide,(dg.struct (by kernel_rfl) (by kernel_rfl) (by rw[pq Tryz.underlying161];exact⟨false,[.str []],_,rfl,by decide,rfl,Tryz.isAgg9,fB Tryz.typeInfo9 rfl,by decide,(dg.str Tryz.underlying9),⟨false,[.int .i64 0],_,rfl,by decide,rfl,Tryz.isAgg3,fB Tryz.typeInfo3 rfl,by decide,(dg.int Tryz.underlying3),⟨false,[.int .i64 0],_,rfl,by decide,rfl,Tryz.isAgg3,fB Tryz.typeInfo3 rfl,by decide,(dg.int Tryz.underlying3),⟨false,[.int .i64 0],_,rfl,by decide,rfl,Tryz.isAgg3,fB Tryz.typeInfo3 rfl,by decide,(dg.int Tryz.underlying3),rfl⟩⟩⟩⟩)),rfl⟩⟩⟩))⟩),
 aC Tryz.typeInfo169 Tryz.isAgg169 ⟨_,Tryz.underlying169,rfl,rfl⟩,
 aC Tryz.typeInfo172 Tryz.isAgg172 ⟨_,Tryz.underlying172,rfl,rfl⟩,
 aC Tryz.typeInfo183 Tryz.isAgg183 ⟨_,Tryz.underlying183⟩,
 aC Tryz.typeInfo184 Tryz.isAgg184 Tryz.underlying184,
 aC Tryz.typeInfo186 Tryz.isAgg186 ⟨_,Tryz.underlying186,rfl,rfl⟩,
 aC Tryz.typeInfo187 Tryz.isAgg187 Tryz.underlying187,
 aC Tryz.typeInfo189 Tryz.isAgg189 ⟨_,Tryz.underlying189,rfl,rfl⟩,
 aC Tryz.typeInfo193 Tryz.isAgg193 ⟨_,Tryz.underlying193,rfl,rfl⟩,
 aC Tryz.typeInfo211 Tryz.isAgg211 ⟨_,Tryz.underlying211,rfl,rfl⟩,
 aC Tryz.typeInfo220 Tryz.isAgg220 ⟨_,Tryz.underlying220,rfl,rfl⟩,
 aC Tryz.typeInfo223 Tryz.isAgg223 Tryz.underlying223,
 aC Tryz.typeInfo237 Tryz.isAgg237 ⟨_,Tryz.underlying237,rfl,rfl⟩ (fun _=>⟨by kernel_rfl,by exact(dg.struct (by kernel_rfl) (by kernel_rfl) (by rw[pq Tryz.underlying237];exact⟨false,[.str []],_,rfl,by decide,rfl,Tryz.isAgg9,fB Tryz.typeInfo9 rfl,by decide,(dg.str Tryz.underlying9),⟨false,[.int .i64 0],_,rfl,by decide,rfl,Tryz.isAgg3,fB Tryz.typeInfo3 rfl,by decide,(dg.int Tryz.underlying3),⟨false,[.int .i64 0],_,rfl,by decide,rfl,Tryz.isAgg3,fB Tryz.typeInfo3 rfl,by decide,(dg.int Tryz.underlying3),⟨false,[.int .i64 0],_,rfl,by decide,rfl,Tryz.isAgg3,fB Tryz.typeInfo3 rfl,by decide,(dg.int Tryz.underlying3),rfl⟩⟩⟩⟩))⟩),
 aC Tryz.typeInfo241 Tryz.isAgg241 ⟨_,Tryz.underlying241⟩,
 aC Tryz.typeInfo256 Tryz.isAgg256 Tryz.underlying256,
 aC Tryz.typeInfo262 Tryz.isAgg262 ⟨_,Tryz.underlying262,rfl,rfl⟩,
 aC Tryz.typeInfo266 Tryz.isAgg266 ⟨_,Tryz.underlying266,rfl,rfl⟩,
 aC Tryz.typeInfo268 Tryz.isAgg268 Tryz.underlying268,
 aC Tryz.typeInfo270 Tryz.isAgg270 Tryz.underlying270,
 aC Tryz.typeInfo272 Tryz.isAgg272 Tryz.underlying272,
 aC Tryz.typeInfo279 Tryz.isAgg279 Tryz.underlying279,
 aC Tryz.typeInfo281 Tryz.isAgg281 Tryz.underlying281,
 aC Tryz.typeInfo286 Tryz.isAgg286 Tryz.underlying286,
 aC Tryz.typeInfo307 Tryz.isAgg307 ⟨_,Tryz.underlying307,rfl,rfl⟩,
 aC Tryz.typeInfo315 Tryz.isAgg315 Tryz.underlying315,
 aC Tryz.typeInfo322 Tryz.isAgg322 Tryz.underlying322,
 aC Tryz.typeInfo324 Tryz.isAgg324 Tryz.underlying324,
 aC Tryz.typeInfo325 Tryz.isAgg325 Tryz.underlying325,
 aC Tryz.typeInfo327 Tryz.isAgg327 ⟨_,Tryz.underlying327,rfl,rfl⟩,
 aC Tryz.typeInfo334 Tryz.isAgg334 Tryz.underlying334,
 aC Tryz.typeInfo337 Tryz.isAgg337 ⟨_,Tryz.underlying337⟩,
 aC Tryz.typeInfo343 Tryz.isAgg343 trivial,
 aC Tryz.typeInfo345 Tryz.isAgg345 Tryz.underlying345,
 aC Tryz.typeInfo363 Tryz.isAgg363 ⟨_,Tryz.underlying363,rfl,rfl⟩,
 aC Tryz.typeInfo374 Tryz.isAgg374 ⟨_,Tryz.underlying374⟩,
 aC Tryz.typeInfo376 Tryz.isAgg376 ⟨_,Tryz.underlying376,rfl,rfl⟩,
 aC Tryz.typeInfo386 Tryz.isAgg386 Tryz.underlying386,
 aC Tryz.typeInfo395 Tryz.isAgg395 ⟨_,Tryz.underlying395,rfl,rfl⟩,
 aC Tryz.typeInfo401 Tryz.isAgg401 ⟨_,Tryz.underlying401,rfl,rfl⟩,
 trivial⟩
end Go.Proofs.YtpechfcbnoggfaaGreatDoor
end
section
namespace Go.Nest
open Go Go.AM Go.Proofs
open Go.Proofs.YtpechfcbnoggfaaGreatDoor (tab tabOk)
set_option maxRecDepth 4000
def fY(c:UInt8):Bool:=decide (c.toNat≤32)||decide (c.toNat=47)||decide (127≤c.toNat)
def bO(l:List UInt8):Int:=if l=[]∨l=[46]∨l=[46,46]∨l.any fY then 2 else if 20<l.length then 4 else 0
def shown(c:UInt8):Bool:=decide (32≤c.toNat)&&decide (c.toNat<127)
theorem hU{α:Type}{p:α→Bool}{l:List α}{i:Nat}(h:i<l.length)(h1:(l.take i).any p=false)(h2:p l[i]=false):(l.take (i+1)).any p=false:=by
 rw[List.take_succ_eq_append_getElem h,List.any_append,h1];simp[h2]
theorem o4{α:Type}{p:α→Bool}{l:List α}{i:Nat}(h:i<l.length)(h2:p l[i]=true):l.any p=true:=
 List.any_eq_true.2 ⟨_,List.getElem_mem h,h2⟩
theorem se(l:List UInt8):ai Tryz.prog 214 [.c (.str l)] [] (Rt (.c (.int .i64 (bO l))) []):=by
 refine an (n:=39) (n0:=0) tabOk Tryz.call214 Tryz.func214 ?_;intro hb;have hb:l.length≤9223372036854775807:=hb.1.1
 have b:∀{i:Nat} (h:i<l.length),fY l[i]=true→(2:Int)=bO l:=fun h d=>by
  unfold bO;rw[if_pos (.inr (.inr (.inr (o4 h d))))]
 (conv=>whnf);refine dec (fun(h:l=[])=>?_) (fun(h:¬l=[])=>?_)
 ·(conv=>whnf);refine eJ ?_ rfl;simp[bO,h]
 (conv=>whnf);refine dec (fun(d:l=[46])=>?_) (fun(d:¬l=[46])=>?_)
 ·(conv=>whnf);refine eJ ?_ rfl;simp[bO,d]
 (conv=>whnf);refine dec (fun(e:l=[46,46])=>?_) (fun(e:¬l=[46,46])=>?_)
 ·(conv=>whnf);refine eJ ?_ rfl;simp[bO,e]
 (conv=>whnf);refine lp Nat (fun i=>⟨[(0,.c (.str l)),(15,.c (.int .i64 l.length)),(16,.c (.int .i64 i))],[]⟩) (fun i=>i≤l.length∧(l.take i).any fY=false) (fun i=>l.length-i) 0 [] [] ?_ ?_ (fun i j=>?_)
 ·simp
 ·repeat' first|exact trivial|exact rfl|refine And.intro ?_ ?_
 (conv=>whnf);refine dec (fun k=>?_) (fun k=>?_)
 ·have a:i<l.length:=by omega
  (conv=>whnf);refine⟨i,l[i],rfl,List.getElem?_eq_getElem a,?_⟩;(conv=>whnf);refine dec (fun f=>?_) (fun f=>?_)
  ·(conv=>whnf);refine eJ ?_ rfl;rw[←b a (by simp[fY];omega)]
  (conv=>whnf);refine⟨i,l[i],rfl,List.getElem?_eq_getElem a,?_⟩;(conv=>whnf);refine dec (fun m=>?_) (fun m=>?_)
  ·(conv=>whnf);refine eJ ?_ rfl;rw[←b a (by simp[fY];omega)]
  (conv=>whnf);refine⟨i,l[i],rfl,List.getElem?_eq_getElem a,?_⟩;(conv=>whnf);refine dec (fun o=>?_) (fun o=>?_)
  ·(conv=>whnf);refine eJ ?_ rfl;rw[←b a (by simp[fY];omega)]
  (conv=>whnf);refine⟨i64 (by omega) (by omega),?_⟩;(conv=>whnf);refine ag (i+1) [] [] ⟨a,hU a j.2 (by simp[fY];omega)⟩ (by simp only[];omega) ?_;repeat' first|exact trivial|exact rfl|refine And.intro ?_ ?_
 ·obtain rfl:i=l.length:=by omega
  have g:l.any fY=false:=by simpa using j.2
  (conv=>whnf);refine dec (fun f=>?_) (fun f=>?_)
  ·(conv=>whnf);refine eJ ?_ rfl;unfold bO;rw[if_neg (by simp[h,d,e,g]),if_pos (by omega)]
  ·(conv=>whnf);refine eJ ?_ rfl;unfold bO;rw[if_neg (by simp[h,d,e,g]),if_neg (by omega)]
end Go.Nest
end
section
namespace Go.Nest
open Go Go.AM Go.Proofs
open Go.Proofs.YtpechfcbnoggfaaGreatDoor (tab tabOk)
set_option maxRecDepth 4000
theorem Ld(l:List UInt8):ai Tryz.prog 235 [.c (.str l)] [] (Rt (.c (.int .i64 (bO l))) []):=by
 refine an (n:=39) (n0:=0) tabOk Tryz.call235 Tryz.func235 ?_;intro hb;have hb:l.length≤9223372036854775807:=hb.1.1
 have b:∀{i:Nat} (h:i<l.length),fY l[i]=true→(2:Int)=bO l:=fun h d=>by
  unfold bO;rw[if_pos (.inr (.inr (.inr (o4 h d))))]
 (conv=>whnf);refine dec (fun(e:l=[])=>?_) (fun(e:¬l=[])=>?_)
 ·(conv=>whnf);refine eJ ?_ rfl;simp[bO,e]
 (conv=>whnf);refine dec (fun(d:l=[46])=>?_) (fun(d:¬l=[46])=>?_)
 ·(conv=>whnf);refine eJ ?_ rfl;simp[bO,d]
 (conv=>whnf);refine dec (fun(f:l=[46,46])=>?_) (fun(f:¬l=[46,46])=>?_)
 ·(conv=>whnf);refine eJ ?_ rfl;simp[bO,f]
 (conv=>whnf);refine lp Nat (fun i=>⟨[(0,.c (.str l)),(3,.c (.int .i64 i))],[]⟩) (fun i=>i≤l.length∧(l.take i).any fY=false) (fun i=>l.length-i) 0 [] [] ?_ ?_ (fun i j=>?_)
 ·simp
 ·repeat' first|exact trivial|exact rfl|refine And.intro ?_ ?_
 (conv=>whnf);refine dec (fun k=>?_) (fun k=>?_)
 ·have a:i<l.length:=by omega
  repeat'((conv=>whnf);first|(refine dec (fun h=>?_) (fun h=>?_)<;>try contradiction)|refine⟨i64 (by omega) (by omega),?_⟩|refine⟨_,_,rfl,List.getElem?_eq_getElem (by omega),?_⟩|refine aK ?_|fail)
  ·rw[←b a (by simp[fY];omega)]
  ·rw[←b a (by simp[fY];omega)]
  ·rw[←b a (by simp[fY];omega)]
  ·refine ag (i+1) [] [] ⟨a,hU a j.2 (by simp[fY];omega)⟩ (by simp only[];omega) ?_;repeat' first|exact trivial|exact rfl|refine And.intro ?_ ?_
 ·obtain rfl:i=l.length:=by omega
  have g:l.any fY=false:=by simpa using j.2
  repeat'((conv=>whnf);first|(refine dec (fun h=>?_) (fun h=>?_)<;>try contradiction)|refine aK ?_|fail)
  ·unfold bO;rw[if_neg (by simp[e,d,f,g]),if_pos (by omega)]
  ·unfold bO;rw[if_neg (by simp[e,d,f,g]),if_neg (by omega)]
theorem wU(l:List UInt8):ai Tryz.prog 317 [.c (.str l)] [] (Rt (.c (.bool (l.all shown))) []):=by
 refine an (n:=20) (n0:=0) tabOk Tryz.call317 Tryz.func317 ?_;intro hb;have hb:l.length≤9223372036854775807:=hb.1.1;(conv=>whnf);refine lp Nat (fun i=>⟨[(0,.c (.str l)),(5,.c (.int .i64 l.length)),(6,.c (.int .i64 i))],[]⟩) (fun i=>i≤l.length∧(l.take i).all shown=true) (fun i=>l.length-i) 0 [] [] ?_ ?_ (fun i e=>?_)
 ·simp
 ·repeat' first|exact trivial|exact rfl|refine And.intro ?_ ?_
 have b:∀(h:i<l.length),shown l[i]=false→false=l.all shown:=fun h d=>by
  symm;rw[Bool.eq_false_iff,Ne,List.all_eq_true];intro f;rw[f _ (List.getElem_mem h)]at d;cases d
 (conv=>whnf);refine dec (fun g=>?_) (fun g=>?_)
 ·have a:i<l.length:=by omega
  repeat'((conv=>whnf);first|(refine dec (fun h=>?_) (fun h=>?_)<;>try contradiction)|refine⟨i64 (by omega) (by omega),?_⟩|refine⟨_,_,rfl,List.getElem?_eq_getElem (by omega),?_⟩|refine aG ?_|fail)
  ·rw[←b a (by simp[shown];omega)]
  ·rw[←b a (by simp[shown];omega)]
  ·refine ag (i+1) [] [] ⟨a,?_⟩ (by simp only[];omega) ?_
   ·rw[List.take_succ_eq_append_getElem a,List.all_append,e.2];simp[shown];omega
   repeat' first|exact trivial|exact rfl|refine And.intro ?_ ?_
 ·obtain rfl:i=l.length:=by omega
  have j:l.all shown=true:=by simpa using e.2
  repeat'((conv=>whnf);first|refine aG ?_|fail)
  rw[j]
end Go.Nest
end
section
namespace Go.Nest
open Go Go.AM Go.Proofs
theorem pV{α:Type}[DecidableEq α]{l m:List α}{i:Nat}(h:i<l.length)(a:i<m.length)(hne:¬l[i]=m[i]):false=decide (l=m):=by
 symm;rw[decide_eq_false_iff_not];intro e;subst e;exact hne rfl
theorem oU{α:Type}{l m:List α}{i:Nat}(h:i<l.length)(a:i<m.length)(b:l.take i=m.take i)(he:l[i]=m[i]):l.take (i+1)=m.take (i+1):=by
 rw[List.take_succ_eq_append_getElem h,List.take_succ_eq_append_getElem a,b,he]
theorem qu{α:Type}[DecidableEq α]{l m:List α}{i:Nat}(h:l.length≤i)(hl:l.length=m.length)(a:l.take i=m.take i):true=decide (l=m):=by
 symm;rw[decide_eq_true_iff];rwa[List.take_of_length_le h,List.take_of_length_le (hl▸h)]at a
theorem pW{α:Type}[DecidableEq α]{l m:List α}(h:¬(l.length:Int)=m.length):false=decide (l=m):=by
 symm;rw[decide_eq_false_iff_not];intro e;subst e;exact h rfl
theorem xT{a b:UInt8}:(a.toNat:Int)=b.toNat↔a=b:=by rw[Int.natCast_inj];exact UInt8.toNat_inj
theorem yL{a b:aF}:eX (cX a) (cX b)↔a=b:=by
 cases a;cases b;simp[cX,eX,mM]
end Go.Nest
end
section
namespace Go.Nest
open Go Go.AM Go.Proofs
open Go.Proofs.YtpechfcbnoggfaaGreatDoor (tab tabOk)
set_option maxRecDepth 4000
theorem Lf(a b:List Int):ai Tryz.prog 30 [.c (.bs 1 Int encI a),.c (.bs 1 Int encI b)] [] (Rt (.c (.bool (decide (a=b)))) []):=by
 refine an (n:=26) (n0:=0) tabOk Tryz.call30 Tryz.func30 ?_;intro hb;have hb:a.length≤9223372036854775807:=hb.1.1;repeat'((conv=>whnf);first|(refine ay (fun h=>?_) (fun h=>?_)<;>try contradiction)|refine aG ?_|fail)
 ·exact pW h
 (conv=>whnf);have k:a.length=b.length:=by omega
 refine lp Nat (fun i=>⟨[(0,.c (.bs 1 Int encI a)),(1,.c (.bs 1 Int encI b)),(5,.c (.int .i64 i))],[]⟩) (fun i=>i≤a.length∧a.take i=b.take i) (fun i=>a.length-i) 0 [] [] ?_ ?_ (fun i g=>?_)
 ·simp
 ·repeat' first|exact trivial|exact rfl|refine And.intro ?_ ?_
 (conv=>whnf);refine dec (fun j=>?_) (fun j=>?_)
 ·have f:i<a.length:=by omega
  have d:i<b.length:=by omega
  (conv=>whnf);refine⟨false,.grow,(.l [0,1,2,3,4,5,6,7,8]),by kernel_rfl,.inl ?_⟩;repeat'((conv=>whnf);first|(refine ay (fun h=>?_) (fun h=>?_)<;>try contradiction)|refine⟨i64 (by omega) (by omega),?_⟩|refine⟨_,_,rfl,List.getElem?_eq_getElem (by omega),?_⟩|refine aG ?_|fail)
  ·exact pV f d (fun e=>h ((Iff.rfl).2 e))
  ·refine ag (i+1) [] [] ⟨f,oU f d g.2 ((Iff.rfl).1 h)⟩ (by simp only[];omega) ?_;repeat' first|exact trivial|exact rfl|refine And.intro ?_ ?_
 ·repeat'((conv=>whnf);first|refine aG ?_|fail)
  exact qu (by omega) k g.2
theorem E4(a b:List Int):ai Tryz.prog 321 [.c (.bs 1 Int encI a),.c (.bs 1 Int encI b)] [] (Rt (.c (.bool (decide (a=b)))) []):=by
 refine an (n:=26) (n0:=0) tabOk Tryz.call321 Tryz.func321 ?_;intro hb;have hb:a.length≤9223372036854775807:=hb.1.1;repeat'((conv=>whnf);first|(refine ay (fun h=>?_) (fun h=>?_)<;>try contradiction)|refine aG ?_|fail)
 ·exact pW h
 (conv=>whnf);have k:a.length=b.length:=by omega
 refine lp Nat (fun i=>⟨[(0,.c (.bs 1 Int encI a)),(1,.c (.bs 1 Int encI b)),(12,.c (.int .i64 a.length)),(13,.c (.int .i64 i))],[]⟩) (fun i=>i≤a.length∧a.take i=b.take i) (fun i=>a.length-i) 0 [] [] ?_ ?_ (fun i g=>?_)
 ·simp
 ·repeat' first|exact trivial|exact rfl|refine And.intro ?_ ?_
 (conv=>whnf);refine dec (fun j=>?_) (fun j=>?_)
 ·have f:i<a.length:=by omega
  have d:i<b.length:=by omega
  (conv=>whnf);refine⟨false,.grow,(.l [0,1,2,3,4,5,6,7,8]),by kernel_rfl,.inl ?_⟩;repeat'((conv=>whnf);first|(refine ay (fun h=>?_) (fun h=>?_)<;>try contradiction)|refine⟨i64 (by omega) (by omega),?_⟩|refine⟨_,_,rfl,List.getElem?_eq_getElem (by omega),?_⟩|refine aG ?_|fail)
  ·exact pV f d (fun e=>h ((Iff.rfl).2 e))
  ·refine ag (i+1) [] [] ⟨f,oU f d g.2 ((Iff.rfl).1 h)⟩ (by simp only[];omega) ?_;repeat' first|exact trivial|exact rfl|refine And.intro ?_ ?_
 ·repeat'((conv=>whnf);first|refine aG ?_|fail)
  exact qu (by omega) k g.2
theorem EY(a b:List UInt8):ai Tryz.prog 319 [.c (.bs 1 UInt8 bD a),.c (.bs 1 UInt8 bD b)] [] (Rt (.c (.bool (decide (a=b)))) []):=by
 refine an (n:=26) (n0:=0) tabOk Tryz.call319 Tryz.func319 ?_;intro hb;have hb:a.length≤9223372036854775807:=hb.1.1;repeat'((conv=>whnf);first|(refine ay (fun h=>?_) (fun h=>?_)<;>try contradiction)|refine aG ?_|fail)
 ·exact pW h
 (conv=>whnf);have k:a.length=b.length:=by omega
 refine lp Nat (fun i=>⟨[(0,.c (.bs 1 UInt8 bD a)),(1,.c (.bs 1 UInt8 bD b)),(12,.c (.int .i64 a.length)),(13,.c (.int .i64 i))],[]⟩) (fun i=>i≤a.length∧a.take i=b.take i) (fun i=>a.length-i) 0 [] [] ?_ ?_ (fun i g=>?_)
 ·simp
 ·repeat' first|exact trivial|exact rfl|refine And.intro ?_ ?_
 (conv=>whnf);refine dec (fun j=>?_) (fun j=>?_)
 ·have f:i<a.length:=by omega
  have d:i<b.length:=by omega
  (conv=>whnf);refine⟨false,.grow,(.l [0,1,2,3,4,5,6,7,8]),by kernel_rfl,.inl ?_⟩;repeat'((conv=>whnf);first|(refine ay (fun h=>?_) (fun h=>?_)<;>try contradiction)|refine⟨i64 (by omega) (by omega),?_⟩|refine⟨_,_,rfl,List.getElem?_eq_getElem (by omega),?_⟩|refine aG ?_|fail)
  ·exact pV f d (fun e=>h ((xT).2 e))
  ·refine ag (i+1) [] [] ⟨f,oU f d g.2 ((xT).1 h)⟩ (by simp only[];omega) ?_;repeat' first|exact trivial|exact rfl|refine And.intro ?_ ?_
 ·repeat'((conv=>whnf);first|refine aG ?_|fail)
  exact qu (by omega) k g.2
theorem EZ(a b:List aF):ai Tryz.prog 320 [.c (.bs 4 aF cX a),.c (.bs 4 aF cX b)] [] (Rt (.c (.bool (decide (a=b)))) []):=by
 refine an (n:=26) (n0:=0) tabOk Tryz.call320 Tryz.func320 ?_;intro hb;have hb:a.length≤9223372036854775807:=hb.1.1;repeat'((conv=>whnf);first|(refine ay (fun h=>?_) (fun h=>?_)<;>try contradiction)|refine aG ?_|fail)
 ·exact pW h
 (conv=>whnf);have k:a.length=b.length:=by omega
 refine lp Nat (fun i=>⟨[(0,.c (.bs 4 aF cX a)),(1,.c (.bs 4 aF cX b)),(12,.c (.int .i64 a.length)),(13,.c (.int .i64 i))],[]⟩) (fun i=>i≤a.length∧a.take i=b.take i) (fun i=>a.length-i) 0 [] [] ?_ ?_ (fun i g=>?_)
 ·simp
 ·repeat' first|exact trivial|exact rfl|refine And.intro ?_ ?_
 (conv=>whnf);refine dec (fun j=>?_) (fun j=>?_)
 ·have f:i<a.length:=by omega
  have d:i<b.length:=by omega
  (conv=>whnf);refine⟨false,.grow,(.l [0,1,2,3,4,5,6,7,8]),by kernel_rfl,.inl ?_⟩;repeat'((conv=>whnf);first|(refine ay (fun h=>?_) (fun h=>?_)<;>try contradiction)|refine⟨i64 (by omega) (by omega),?_⟩|refine⟨_,_,rfl,List.getElem?_eq_getElem (by omega),?_⟩|refine aG ?_|fail)
  ·exact pV f d (fun e=>h ((yL).2 e))
  ·refine ag (i+1) [] [] ⟨f,oU f d g.2 ((yL).1 h)⟩ (by simp only[];omega) ?_;repeat' first|exact trivial|exact rfl|refine And.intro ?_ ?_
 ·repeat'((conv=>whnf);first|refine aG ?_|fail)
  exact qu (by omega) k g.2
theorem Jv(a b:List UInt8):ai Tryz.prog 18 [.c (.bs 1 UInt8 bD a),.c (.bs 1 UInt8 bD b)] [] (Rt (.c (.bool (decide (a=b)))) []):=by
 refine an (n:=10) (n0:=0) tabOk Tryz.call18 Tryz.func18 ?_;intro hb;(conv=>whnf);refine⟨a,rfl,?_⟩;(conv=>whnf);refine⟨b,rfl,?_⟩;(conv=>whnf);exact eJ rfl rfl
theorem tY(l:List UInt8)(hl:l.length*1≤140737488355328):ai Tryz.prog 118 [.c (.bs 1 UInt8 bD l)] [] (Rt (.c (.rw 0)) [.row 1 UInt8 bD l]):=by
 refine an (n:=8) (n0:=0) tabOk Tryz.call118 Tryz.func118 ?_;intro hb;(conv=>whnf);intro q a;(conv=>whnf);refine aW (fun h=>?_) (fun h=>?_)
 ·obtain rfl:=a h;(conv=>whnf);exact rx [] [.new]
 ·(conv=>whnf);refine⟨[],rfl,?_⟩;(conv=>whnf);refine⟨_,_,rfl,rfl,(by simp only[List.length_append,List.length_cons,List.length_nil];omega),?_⟩;(conv=>whnf);exact rx [] [.same 1]
theorem DM(l:List aF)(hl:l.length*40≤140737488355328):ai Tryz.prog 296 [.c (.bs 4 aF cX l)] [] (Rt (.c (.rw 0)) [.row 4 aF cX l]):=by
 refine an (n:=8) (n0:=0) tabOk Tryz.call296 Tryz.func296 ?_;intro hb;(conv=>whnf);intro q a;(conv=>whnf);refine aW (fun h=>?_) (fun h=>?_)
 ·obtain rfl:=a h;(conv=>whnf);exact rx [] [.new]
 ·(conv=>whnf);refine⟨[],rfl,?_⟩;(conv=>whnf);refine⟨_,_,rfl,rfl,(by simp only[List.length_append,List.length_cons,List.length_nil];omega),?_⟩;(conv=>whnf);exact rx [] [.same 1]
theorem qY(l:List Int)(hl:l.length*8≤140737488355328):ai Tryz.prog 102 [.c (.bs 1 Int encI l)] [] (Rt (.c (.rw 0)) [.row 1 Int encI l]):=by
 refine an (n:=8) (n0:=0) tabOk Tryz.call102 Tryz.func102 ?_;intro hb;(conv=>whnf);intro q a;(conv=>whnf);refine aW (fun h=>?_) (fun h=>?_)
 ·obtain rfl:=a h;(conv=>whnf);exact rx [] [.new]
 ·(conv=>whnf);refine⟨[],rfl,?_⟩;(conv=>whnf);refine⟨_,_,rfl,rfl,(by simp only[List.length_append,List.length_cons,List.length_nil];omega),?_⟩;(conv=>whnf);exact rx [] [.same 1]
end Go.Nest
end
section
namespace Go.Nest
open Go Go.AM Go.Proofs
open Go.Proofs.YtpechfcbnoggfaaGreatDoor (tab tabOk)
set_option maxRecDepth 4000
def fS(a:Option (List UInt8))(e:aF):Int:=
 if bO e.name≠0 then bO e.name else if e.mode<1∨3<e.mode then 6 else if e.id<0∨e.ar<0∨4≤e.ar then 1 else if e.mode≠3∧e.ar≠0 then 7
 else match a with
  |some p=>if Op.bytesLess p e.name=true then 0 else 8
  |none=>0
def eF:Option (List UInt8)→List aF→Int
 |_,[]=>0
 |a,e::r=>if fS a e=0 then eF (some e.name) r else fS a e
def jn(l:List aF):Nat→Option (List UInt8)
 |0=>none
 |i+1=>(l[i]?).map (·.name)
def kP(l:List aF):Int:=if 60<l.length then 5 else eF none l
theorem EV{l:List aF}{i:Nat}(h:i<l.length)(hi:eF none l=eF (jn l i) (l.drop i)):eF none l=if fS (jn l i) l[i]=0 then eF (jn l (i+1)) (l.drop (i+1))else fS (jn l i) l[i]:=by
 rw[hi,List.drop_eq_getElem_cons h];have:jn l (i+1)=some l[i].name:=by simp[jn,h]
 rw[this,eF]
theorem IF{l:List aF}{i:Nat}(h:0<i)(hi:i<l.length):jn l i=some (l[i-1]'(by omega)).name:=by
 cases i with
 |zero=>omega
 |succ j=>simp only[jn];rw[List.getElem?_eq_getElem (by omega)];rfl
theorem wO(l:List aF):ai Tryz.prog 318 [.c (.bs 4 aF cX l)] [] (Rt (.c (.int .i64 (kP l))) []):=by
 refine an (n:=69) (n0:=0) tabOk Tryz.call318 Tryz.func318 ?_;intro hb;have hb:l.length≤9223372036854775807:=hb.1.1;repeat'((conv=>whnf);first|(refine dec (fun h=>?_) (fun h=>?_)<;>try contradiction)|refine aK ?_|fail)
 ·unfold kP;rw[if_pos (by omega)]
 (conv=>whnf);have m:kP l=eF none l:=by unfold kP;rw[if_neg (by omega)]
 rw[m];refine lp Nat (fun i=>⟨[(0,.c (.bs 4 aF cX l)),(9,.c (.bs 4 aF cX l)),(10,.c (.int .i64 l.length)),(11,.c (.int .i64 i))],[]⟩) (fun i=>i≤l.length∧eF none l=eF (jn l i) (l.drop i)) (fun i=>l.length-i) 0 [] [] ?_ ?_ (fun i e=>?_)
 ·simp[jn]
 ·repeat' first|exact trivial|exact rfl|refine And.intro ?_ ?_
 (conv=>whnf);refine dec (fun j=>?_) (fun j=>?_)
 ·have a:i<l.length:=by omega
  have d:=EV a e.2;repeat'((conv=>whnf);first|refine⟨_,_,rfl,List.getElem?_eq_getElem (by omega),?_⟩|fail)
  (conv=>whnf);refine cl [] [] (se l[i].name) ?_;have b:∀{c:Int},fS (jn l i) l[i]=c→c≠0→c=eF none l:=fun f g=>by rw[d,f,if_neg g]
  repeat'((conv=>whnf);first|(refine dec (fun h=>?_) (fun h=>?_)<;>try contradiction)|(refine ay (fun h=>?_) (fun h=>?_)<;>try contradiction)|refine aK ?_|fail)
  all_goals first|(refine b ?_ ?_<;>simp[fS, *];done)|skip
  all_goals
   (conv=>whnf);refine⟨false,.grow,(.l [0,1,2,3,4,5,6,7,8,9,10,11,12,13]),by kernel_rfl,.inl ?_⟩;repeat'((conv=>whnf);first|(refine dec (fun h=>?_) (fun h=>?_)<;>try contradiction)|refine⟨i64 (by omega) (by omega),?_⟩|fail)
   ·(conv=>whnf);refine⟨i-1,l[i-1],by omega,List.getElem?_eq_getElem (by omega),?_⟩;have k:=IF (l:=l) (i:=i) (by omega) a;repeat'((conv=>whnf);first|refine dV (fun h=>?_) (fun h=>?_)|refine⟨i64 (by omega) (by omega),?_⟩|refine aK ?_|fail)
    ·refine b ?_ (by decide);simp[fS, *]
    ·refine ag (i+1) [] [] ⟨a,?_⟩ (by simp only[];omega) ?_
     ·rw[d,if_pos];simp[fS, *]
     repeat' first|exact trivial|exact rfl|refine And.intro ?_ ?_
   ·have k:jn l i=none:=by
     obtain rfl:i=0:=by omega
     rfl
    skip;refine ag (i+1) [] [] ⟨a,?_⟩ (by simp only[];omega) ?_
    ·rw[d,if_pos];simp[fS, *]
    repeat' first|exact trivial|exact rfl|refine And.intro ?_ ?_
 ·repeat'((conv=>whnf);first|refine aK ?_|fail)
  have:=e.2;rw[List.drop_of_length_le (by omega)]at this;rw[this];rfl
end Go.Nest
end
section
namespace Go.Nest
open Go Go.AM Go.Proofs
open Go.Proofs.YtpechfcbnoggfaaGreatDoor (tab tabOk)
set_option maxRecDepth 4000
def bh{α:Type}(p:α→Bool)(l:List α):Int:=match l.findIdx? p with
 |some i=>i
 |none=> -1
theorem jM{α:Type}{p:α→Bool}{l:List α}{i:Nat}(h:i<l.length)(h1:(l.take i).any p=false)(h2:p l[i]=true):(i:Int)=bh p l:=by
 have:l.findIdx? p=some i:=by
  rw[List.findIdx?_eq_some_iff_getElem];refine⟨h,h2,fun j a=>?_⟩;rw[List.any_eq_false]at h1;have:=h1 l[j] (by rw[List.mem_take_iff_getElem];exact⟨j,by omega,rfl⟩);simpa using this
 unfold bh;rw[this]
theorem kx{α:Type}{p:α→Bool}{l:List α}(h1:l.any p=false):(-1:Int)=bh p l:=by
 have:l.findIdx? p=none:=by
  rw[List.findIdx?_eq_none_iff];rw[List.any_eq_false]at h1;intro x a;simpa using h1 x a
 unfold bh;rw[this]
theorem oh{α:Type}{p:α→Bool}{l:List α}:decide (0≤bh p l)=l.any p:=by
 unfold bh;cases h:l.findIdx? p with
 |none=>
  rw[List.findIdx?_eq_none_iff]at h;simp;exact h
 |some i=>
  rw[List.findIdx?_eq_some_iff_getElem]at h;obtain⟨a,b,_⟩:=h;rw[o4 a b];simp
theorem Gl{g:Nat}{p:Int→Bool}(e:∀x,ai Tryz.prog g [.c (.int .i64 x)] [] (Rt (.c (.bool (p x))) []))(l:List Int):ai Tryz.prog 178 [.c (.bs 1 Int encI l),.c (.fn g [])] [] (Rt (.c (.int .i64 (bh p l))) []):=by
 refine an (n:=19) (n0:=0) tabOk Tryz.call178 Tryz.func178 ?_;intro hb;have hb:l.length≤9223372036854775807:=hb.1.1;(conv=>whnf);refine lp Nat (fun i=>⟨[(0,.c (.bs 1 Int encI l)),(1,.c (.fn g [])),(7,.c (.int .i64 l.length)),(8,.c (.int .i64 i))],[]⟩) (fun i=>i≤l.length∧(l.take i).any p=false) (fun i=>l.length-i) 0 [] [] ?_ ?_ (fun i b=>?_)
 ·simp
 ·repeat' first|exact trivial|exact rfl|refine And.intro ?_ ?_
 (conv=>whnf);refine dec (fun d=>?_) (fun d=>?_)
 ·have a:i<l.length:=by omega
  repeat'((conv=>whnf);first|refine⟨_,_,rfl,List.getElem?_eq_getElem (by omega),?_⟩|fail)
  (conv=>whnf);refine cl [] [] (e l[i]) ?_;repeat'((conv=>whnf);first|refine aW (fun h=>?_) (fun h=>?_)|refine⟨i64 (by omega) (by omega),?_⟩|refine aK ?_|fail)
  ·exact jM a b.2 h
  ·refine ag (i+1) [] [] ⟨a,hU a b.2 h⟩ (by simp only[];omega) ?_;repeat' first|exact trivial|exact rfl|refine And.intro ?_ ?_
 ·repeat'((conv=>whnf);first|refine aK ?_|fail)
  have:=b.2;rw[List.take_of_length_le (by omega)]at this;exact kx this
theorem ug{g:Nat}{p:Int→Bool}(a:∀x,ai Tryz.prog g [.c (.int .i64 x)] [] (Rt (.c (.bool (p x))) []))(l:List Int):ai Tryz.prog 106 [.c (.bs 1 Int encI l),.c (.fn g [])] [] (Rt (.c (.bool (l.any p))) []):=by
 refine an (n:=9) (n0:=0) tabOk Tryz.call106 Tryz.func106 ?_;intro hb;(conv=>whnf);refine cl [] [] (Gl a l) ?_;(conv=>whnf);exact aG oh
theorem tU(n:Int):ai Tryz.prog 316 [.c (.int .i64 n)] [] (Rt (.c (.bool (decide (n<0)))) []):=by
 refine an (n:=5) (n0:=0) tabOk Tryz.call316 Tryz.func316 ?_;intro hb;(conv=>whnf);exact aG rfl
def bQ(o:Ob):Int:=
 if o.kind<1∨3<o.kind then 6
 else if(o.kind≠1∧0<o.bytes.length)∨(o.kind≠2∧0<o.entries.length)∨(o.kind≠3∧(o.tree≠0∨0<o.parents.length∨0<o.text.length))then 7
 else if 400<o.bytes.length∨60<o.text.length then 4
 else if 3<o.parents.length then 5
 else if o.tree<0 then 1
 else if o.parents.any (fun k=>decide (k<0))=true then 1
 else if o.text.all shown=true then kP o.entries
 else 2
set_option maxHeartbeats 2000000 in
theorem DH(o:Ob):ai Tryz.prog 270 [.st (ia o)] [] (Rt (.c (.int .i64 (bQ o))) []):=by
 obtain⟨kind,bytes,a,tree,b,d⟩:=o;refine an (n:=98) (n0:=0) tabOk Tryz.call270 Tryz.func270 ?_;intro hb;(conv=>whnf);refine⟨false,.grow,(.l [0,1,2,3,4,5,6,7,8,9,10,11]),by kernel_rfl,.inl ?_⟩;by_cases e:kind=1
 ·subst e;repeat'((conv=>whnf);first|(refine dec (fun h=>?_) (fun h=>?_)<;>try contradiction)|(refine ay (fun h=>?_) (fun h=>?_)<;>try contradiction)|refine aK ?_|fail)
  all_goals first|(show(_:Int)=bQ _;dsimp only at*;(try simp only[str_nil,←List.length_eq_zero_iff]at*);simp only[bQ];(repeat' split)<;>first|rfl|(exfalso;omega)|(simp_all;done))|skip
  all_goals
   (conv=>whnf);refine cl [] [] (ug tU b) ?_;repeat'((conv=>whnf);first|refine aW (fun h=>?_) (fun h=>?_)|refine aK ?_|fail)
  all_goals first|(show(_:Int)=bQ _;dsimp only at*;(try simp only[str_nil,←List.length_eq_zero_iff]at*);simp only[bQ];(repeat' split)<;>first|rfl|(exfalso;omega)|(simp_all;done))|skip
  all_goals
   (conv=>whnf);refine cl [] [] (wU d) ?_;repeat'((conv=>whnf);first|refine dV (fun h=>?_) (fun h=>?_)|refine aK ?_|fail)
  all_goals first|(show(_:Int)=bQ _;dsimp only at*;(try simp only[str_nil,←List.length_eq_zero_iff]at*);simp only[bQ];(repeat' split)<;>first|rfl|(exfalso;omega)|(simp_all;done))|skip
  all_goals
   (conv=>whnf);refine cl [] [] (wO a) ?_;repeat'((conv=>whnf);first|refine aK ?_|fail)
  all_goals first|(show(_:Int)=bQ _;dsimp only at*;(try simp only[str_nil,←List.length_eq_zero_iff]at*);simp only[bQ];(repeat' split)<;>first|rfl|(exfalso;omega)|(simp_all;done))|skip
 by_cases f:kind=2
 ·subst f;repeat'((conv=>whnf);first|(refine dec (fun h=>?_) (fun h=>?_)<;>try contradiction)|(refine ay (fun h=>?_) (fun h=>?_)<;>try contradiction)|refine aK ?_|fail)
  all_goals first|(show(_:Int)=bQ _;dsimp only at*;(try simp only[str_nil,←List.length_eq_zero_iff]at*);simp only[bQ];(repeat' split)<;>first|rfl|(exfalso;omega)|(simp_all;done))|skip
  all_goals
   (conv=>whnf);refine cl [] [] (ug tU b) ?_;repeat'((conv=>whnf);first|refine aW (fun h=>?_) (fun h=>?_)|refine aK ?_|fail)
  all_goals first|(show(_:Int)=bQ _;dsimp only at*;(try simp only[str_nil,←List.length_eq_zero_iff]at*);simp only[bQ];(repeat' split)<;>first|rfl|(exfalso;omega)|(simp_all;done))|skip
  all_goals
   (conv=>whnf);refine cl [] [] (wU d) ?_;repeat'((conv=>whnf);first|refine dV (fun h=>?_) (fun h=>?_)|refine aK ?_|fail)
  all_goals first|(show(_:Int)=bQ _;dsimp only at*;(try simp only[str_nil,←List.length_eq_zero_iff]at*);simp only[bQ];(repeat' split)<;>first|rfl|(exfalso;omega)|(simp_all;done))|skip
  all_goals
   (conv=>whnf);refine cl [] [] (wO a) ?_;repeat'((conv=>whnf);first|refine aK ?_|fail)
  all_goals first|(show(_:Int)=bQ _;dsimp only at*;(try simp only[str_nil,←List.length_eq_zero_iff]at*);simp only[bQ];(repeat' split)<;>first|rfl|(exfalso;omega)|(simp_all;done))|skip
 by_cases g:kind=3
 ·subst g;repeat'((conv=>whnf);first|(refine dec (fun h=>?_) (fun h=>?_)<;>try contradiction)|refine aK ?_|fail)
  all_goals first|(show(_:Int)=bQ _;dsimp only at*;(try simp only[str_nil,←List.length_eq_zero_iff]at*);simp only[bQ];(repeat' split)<;>first|rfl|(exfalso;omega)|(simp_all;done))|skip
  all_goals
   (conv=>whnf);refine cl [] [] (ug tU b) ?_;repeat'((conv=>whnf);first|refine aW (fun h=>?_) (fun h=>?_)|refine aK ?_|fail)
  all_goals first|(show(_:Int)=bQ _;dsimp only at*;(try simp only[str_nil,←List.length_eq_zero_iff]at*);simp only[bQ];(repeat' split)<;>first|rfl|(exfalso;omega)|(simp_all;done))|skip
  all_goals
   (conv=>whnf);refine cl [] [] (wU d) ?_;repeat'((conv=>whnf);first|refine dV (fun h=>?_) (fun h=>?_)|refine aK ?_|fail)
  all_goals first|(show(_:Int)=bQ _;dsimp only at*;(try simp only[str_nil,←List.length_eq_zero_iff]at*);simp only[bQ];(repeat' split)<;>first|rfl|(exfalso;omega)|(simp_all;done))|skip
  all_goals
   (conv=>whnf);refine cl [] [] (wO a) ?_;repeat'((conv=>whnf);first|refine aK ?_|fail)
  all_goals first|(show(_:Int)=bQ _;dsimp only at*;(try simp only[str_nil,←List.length_eq_zero_iff]at*);simp only[bQ];(repeat' split)<;>first|rfl|(exfalso;omega)|(simp_all;done))|skip
 ·have:bQ ⟨kind,bytes,a,tree,b,d⟩=6:=by
   unfold bQ;rw[if_pos (by simp only[];omega)]
  rw[this];repeat'((conv=>whnf);first|(refine ay (fun h=>?_) (fun h=>?_)<;>try contradiction)|refine aK ?_|fail)
  all_goals rfl
end Go.Nest
end
section
namespace Go.Nest
open Go Go.AM Go.Proofs
open Go.Proofs.YtpechfcbnoggfaaGreatDoor (tab tabOk)
set_option maxRecDepth 4000
theorem vO{o u:Ob}(h:¬(o.kind=u.kind∧o.tree=u.tree∧o.text=u.text∧o.bytes=u.bytes∧o.entries=u.entries∧o.parents=u.parents)):false=decide (o=u):=by
 symm;rw[decide_eq_false_iff_not];intro e;subst e;exact h ⟨rfl,rfl,rfl,rfl,rfl,rfl⟩
theorem HW{o u:Ob}(h1:o.kind=u.kind)(h2:o.tree=u.tree)(a:o.text=u.text)(b:o.bytes=u.bytes)(c:o.entries=u.entries)(d:o.parents=u.parents):o=u:=by
 cases o;cases u;simp_all
theorem Jy(o u:Ob):ai Tryz.prog 274 [.st (ia o),.st (ia u)] [] (Rt (.c (.bool (decide (o=u)))) []):=by
 refine an (n:=45) (n0:=0) tabOk Tryz.call274 Tryz.func274 ?_;intro hb;repeat'((conv=>whnf);first|(refine dec (fun h=>?_) (fun h=>?_)<;>try contradiction)|refine aG ?_|fail)
 ·(conv=>whnf);refine cl [] [] (EY o.bytes u.bytes) ?_;repeat'((conv=>whnf);first|(refine dec (fun h=>?_) (fun h=>?_)<;>try contradiction)|refine aG ?_|fail)
  ·(conv=>whnf);refine cl [] [] (EZ o.entries u.entries) ?_;repeat'((conv=>whnf);first|(refine dec (fun h=>?_) (fun h=>?_)<;>try contradiction)|refine aG ?_|fail)
   ·(conv=>whnf);refine cl [] [] (E4 o.parents u.parents) ?_;repeat'((conv=>whnf);first|refine aG ?_|fail)
    rw[Bool.eq_iff_iff,decide_eq_true_iff,decide_eq_true_iff];exact⟨fun a=>by apply HW<;>assumption,fun e=>by rw[e]⟩
   all_goals exact vO (by simp[*])
  all_goals exact vO (by simp[*])
 all_goals exact vO (by simp[*])
theorem A4(o:Ob)(h1:o.bytes.length*1≤140737488355328)(h2:o.entries.length*40≤140737488355328)(a:o.parents.length*8≤140737488355328):ai Tryz.prog 247 [.st (ia o)] [] (Rt (.st (ak o)) []):=by
 refine an (n:=16) (n0:=0) tabOk Tryz.call247 Tryz.func247 ?_;intro hb;(conv=>whnf);refine⟨false,.grow,(.l [0,1,3,4,6,7,2,9,5,8,10,11,12,13,14]),by kernel_rfl,.inl ?_⟩;skip;(conv=>whnf);refine cl [] [] (tY o.bytes h1) ?_;skip;(conv=>whnf);refine cl [] [] (DM o.entries h2) ?_;skip;(conv=>whnf);refine cl [] [] (qY o.parents a) ?_;skip;(conv=>whnf);exact rx [2,3,4] []
end Go.Nest
end
section
namespace Go.Nest
open Go Go.AM Go.Proofs
open Go.Proofs.YtpechfcbnoggfaaGreatDoor (tab tabOk)
set_option maxRecDepth 4000
def ml:Ob:=⟨0,[],[],0,[],[]⟩
def kindOf(l:List Ob)(id:Int):Int:=if id<0 then 0 else((l[id.toNat]?).map (·.kind)).getD 0
theorem zY{l:List Ob}{id:Int}(h:id<0):(0:Int)=kindOf l id:=by simp[kindOf,h]
theorem zX{l:List Ob}{id:Int}(h:(l.length:Int)≤id):(0:Int)=kindOf l id:=by
 unfold kindOf;split
 ·rfl
 ·rw[List.getElem?_eq_none (by omega)];rfl
theorem GG{l:List Ob}{id:Int}(h:¬id<0)(h2:id.toNat<l.length):l[id.toNat].kind=kindOf l id:=by
 unfold kindOf;rw[if_neg h,List.getElem?_eq_getElem h2];rfl
theorem oq(l:List Ob)(id:Int):ai Tryz.prog 103 [.c (.bp [.bs 6 Ob ak l]),.c (.int .i64 id)] [] (Rt (.c (.int .i64 (kindOf l id))) []):=by
 refine an (n:=24) (n0:=0) tabOk Tryz.call103 Tryz.func103 ?_;intro hb;repeat'((conv=>whnf);first|(refine dec (fun h=>?_) (fun h=>?_)<;>try contradiction)|refine aK ?_|fail)
 ·exact zY h
 ·exact zX h
 ·(conv=>whnf);have a:id.toNat<l.length:=by omega
  refine⟨id.toNat,l[id.toNat],by omega,List.getElem?_eq_getElem a,?_⟩;repeat'((conv=>whnf);first|refine aK ?_|fail)
  exact GG (by assumption) a
theorem pI(l:List Ob):ai Tryz.prog 71 [.c (.bp [.bs 6 Ob ak l])] [] (Rt (.c (.int .i64 l.length)) []):=by
 refine an (n:=8) (n0:=0) tabOk Tryz.call71 Tryz.func71 ?_;intro hb;repeat'((conv=>whnf);first|refine aK ?_|fail)
 rfl
def dH(l:List Ob)(o:Ob):Bool:=(o.entries.all fun e=>decide (kindOf l e.id=e.mode))&&((o.parents.all fun k=>decide (kindOf l k=3))&&(!decide (o.kind=3)||decide (kindOf l o.tree=2)))
theorem tz{α:Type}{p:α→Bool}{l:List α}{i:Nat}(h:i<l.length)(h1:(l.take i).all p=true)(h2:p l[i]=true):(l.take (i+1)).all p=true:=by
 rw[List.take_succ_eq_append_getElem h,List.all_append,h1];simp[h2]
theorem tv{α:Type}{p:α→Bool}{l:List α}{i:Nat}(h:i<l.length)(h2:¬p l[i]=true):l.all p=false:=by
 rw[Bool.eq_false_iff,Ne,List.all_eq_true];exact fun a=>h2 (a _ (List.getElem_mem h))
theorem B9{m:Int}(h:1≤m∧m≤3):([0,1,2,3]:List Int)[m.toNat]? =some m:=by
 have:m=1∨m=2∨m=3:=by omega
 rcases this with rfl|rfl|rfl<;>rfl
theorem G0(l:List Ob)(o:Ob)(ho:∀e∈o.entries,1≤e.mode∧e.mode≤3):ai Tryz.prog 271 [.c (.bp [.bs 6 Ob ak l]),.st (ia o)] [] (Rt (.c (.bool (dH l o))) []):=by
 refine lQ (n:=49) (n0:=0) tabOk Tryz.call271 Tryz.func271 ?_;intro hb;have p:o.entries.length≤9223372036854775807:=hb.1.2.1.2.2.1;have q:o.parents.length≤9223372036854775807:=hb.1.2.1.2.2.2.2.1;refine XM.seq ?_;skip;refine XM.join (ι:=Unit) (fun _=>⟨[(0,.c (.bp [.bs 6 Ob ak l])),(3,.c (.ptr 0 0))],[.box (ia o)]⟩) (fun _=>(o.entries.all fun e=>decide (kindOf l e.id=e.mode))=true) ?_ (fun _ g=>?_)
 ·(conv=>whnf);refine lp Nat (fun i=>⟨[(0,.c (.bp [.bs 6 Ob ak l])),(3,.c (.ptr 0 0)),(10,.c (.bs 4 aF cX o.entries)),(11,.c (.int .i64 o.entries.length)),(12,.c (.int .i64 i))],[.box (ia o)]⟩) (fun i=>i≤o.entries.length∧(o.entries.take i).all (fun e=>decide (kindOf l e.id=e.mode))=true) (fun i=>o.entries.length-i) 0 [] [.same 0] ?_ ?_ (fun i b=>?_)
  ·simp
  ·repeat' first|exact trivial|exact rfl|refine And.intro ?_ ?_
  (conv=>whnf);refine dec (fun d=>?_) (fun d=>?_)
  ·have a:i<o.entries.length:=by omega
   have f:=ho _ (List.getElem_mem a);repeat'((conv=>whnf);first|refine⟨_,_,rfl,List.getElem?_eq_getElem (by omega),?_⟩|fail)
   (conv=>whnf);refine⟨false,.grow,(.alt [0,1,2,5,6] [3,4] fun j=>bif Nat.beq j 3 then(.l [4,7,8,9])else bif Nat.beq j 4 then(.l [7,8,3,9])else .l []),by kernel_rfl,.inl ?_⟩;(conv=>whnf);refine⟨?_,?_⟩
   ·(conv=>whnf);refine cl [] [] (oq l o.entries[i].id) ?_;skip;(conv=>whnf);refine⟨[0,1,2,3],rfl,?_⟩;(conv=>whnf);refine⟨o.entries[i].mode.toNat,⟨by omega,by simp only[List.length_cons,List.length_nil];omega⟩,?_⟩;(conv=>whnf);refine⟨_,B9 f,?_⟩;repeat'((conv=>whnf);first|(refine ay (fun h=>?_) (fun h=>?_)<;>try contradiction)|refine⟨i64 (by omega) (by omega),?_⟩|refine aG ?_|fail)
    ·unfold dH;rw[tv (l:=o.entries) a (by simpa using h)];simp
    ·refine ag (i+1) [] [.same 0] ⟨a,tz a b.2 (by simpa using h)⟩ (by simp only[];omega) ?_;repeat' first|exact trivial|exact rfl|refine And.intro ?_ ?_
   ·(conv=>whnf);refine⟨[0,1,2,3],rfl,?_⟩;(conv=>whnf);refine⟨o.entries[i].mode.toNat,⟨by omega,by simp only[List.length_cons,List.length_nil];omega⟩,?_⟩;(conv=>whnf);refine⟨_,B9 f,?_⟩;(conv=>whnf);refine cl [] [] (oq l o.entries[i].id) ?_;repeat'((conv=>whnf);first|(refine ay (fun h=>?_) (fun h=>?_)<;>try contradiction)|refine⟨i64 (by omega) (by omega),?_⟩|refine aG ?_|fail)
    ·unfold dH;rw[tv (l:=o.entries) a (by simpa using h)];simp
    ·refine ag (i+1) [] [.same 0] ⟨a,tz a b.2 (by simpa using h)⟩ (by simp only[];omega) ?_;repeat' first|exact trivial|exact rfl|refine And.intro ?_ ?_
  ·have:=b.2;rw[List.take_of_length_le (by omega)]at this;(conv=>whnf);refine⟨(),this,[],[.same 0],?_⟩;repeat' first|exact trivial|exact rfl|refine And.intro ?_ ?_
 refine XM.join (ι:=Unit) (fun _=>⟨[(0,.c (.bp [.bs 6 Ob ak l])),(3,.c (.ptr 0 0))],[.box (ia o)]⟩) (fun _=>(o.parents.all fun k=>decide (kindOf l k=3))=true) ?_ (fun _ m=>?_)
 ·(conv=>whnf);refine lp Nat (fun i=>⟨[(0,.c (.bp [.bs 6 Ob ak l])),(3,.c (.ptr 0 0)),(28,.c (.bs 1 Int encI o.parents)),(29,.c (.int .i64 o.parents.length)),(30,.c (.int .i64 i))],[.box (ia o)]⟩) (fun i=>i≤o.parents.length∧(o.parents.take i).all (fun k=>decide (kindOf l k=3))=true) (fun i=>o.parents.length-i) 0 [] [.same 0] ?_ ?_ (fun i b=>?_)
  ·simp
  ·repeat' first|exact trivial|exact rfl|refine And.intro ?_ ?_
  (conv=>whnf);refine dec (fun d=>?_) (fun d=>?_)
  ·have a:i<o.parents.length:=by omega
   repeat'((conv=>whnf);first|refine⟨_,_,rfl,List.getElem?_eq_getElem (by omega),?_⟩|fail)
   (conv=>whnf);refine cl [] [] (oq l o.parents[i]) ?_;repeat'((conv=>whnf);first|(refine ay (fun h=>?_) (fun h=>?_)<;>try contradiction)|refine⟨i64 (by omega) (by omega),?_⟩|refine aG ?_|fail)
   ·unfold dH;rw[tv (l:=o.parents) a (by simpa using h)];simp
   ·refine ag (i+1) [] [.same 0] ⟨a,tz a b.2 (by simpa using h)⟩ (by simp only[];omega) ?_;repeat' first|exact trivial|exact rfl|refine And.intro ?_ ?_
  ·have:=b.2;rw[List.take_of_length_le (by omega)]at this;(conv=>whnf);refine⟨(),this,[],[.same 0],?_⟩;repeat' first|exact trivial|exact rfl|refine And.intro ?_ ?_
 refine XM.of ?_;have r:dH l o=(!decide (o.kind=3)||decide (kindOf l o.tree=2)):=by unfold dH;rw[g,m];rfl
 rw[r];repeat'((conv=>whnf);first|(refine ay (fun h=>?_) (fun h=>?_)<;>try contradiction)|refine aG ?_|fail)
 ·simp[h]
 ·(conv=>whnf);refine cl [] [] (oq l o.tree) ?_;repeat'((conv=>whnf);first|refine aG ?_|fail)
  simp[h]
end Go.Nest
end
section
namespace Go.Nest
open Go Go.AM
theorem ET{p:Option (List UInt8)}{e:aF}(h:fS p e=0):bO e.name=0∧(1≤e.mode∧e.mode≤3)∧0≤e.id∧(0≤e.ar∧e.ar<4)∧(e.mode=3∨e.ar=0):=by
 unfold fS at h;split at h
 ·exact absurd h ‹_›
 split at h
 ·cases h
 split at h
 ·cases h
 split at h
 ·cases h
 refine⟨?_,?_,?_,?_,?_⟩<;>omega
theorem mY:∀{l:List aF} {p:Option (List UInt8)},eF p l=0→∀e∈l,bO e.name=0∧(1≤e.mode∧e.mode≤3)∧0≤e.id∧(0≤e.ar∧e.ar<4)∧(e.mode=3∨e.ar=0)
 |[],_,_,e,he=>by cases he
 |x::l,p,h,e,he=>by
  unfold eF at h;split at h
  ·rename_i a;rcases List.mem_cons.1 he with rfl|he
   ·exact ET a
   ·exact mY h e he
  ·exact absurd h ‹_›
structure kT(o:Ob):Prop where
 k1:1≤o.kind
 k3:o.kind≤3
 bytes:o.bytes.length≤400
 text:o.text.length≤60
 parents:o.parents.length≤3
 entries:o.entries.length≤60
 nb:o.kind≠1→o.bytes=[]
 ne:o.kind≠2→o.entries=[]
 nc:o.kind≠3→o.tree=0∧o.parents=[]∧o.text=[]
 tree:0≤o.tree
 par:∀k∈o.parents,0≤k
 txt:o.text.all shown=true
 ents:eF none o.entries=0
theorem rU{α:Type}{l:List α}(h:¬0<l.length):l=[]:=List.eq_nil_of_length_eq_zero (by omega)
theorem oD{o:Ob}(h:bQ o=0):kT o:=by
 simp only[bQ]at h;split at h
 ·cases h
 split at h
 ·cases h
 split at h
 ·cases h
 split at h
 ·cases h
 split at h
 ·cases h
 split at h
 ·cases h
 split at h
 ·unfold kP at h;split at h
  ·cases h
  rename_i d e f g i b c j;refine⟨by omega,by omega,by omega,by omega,by omega,by omega,fun a=>rU (by omega),fun a=>rU (by omega),fun a=>⟨by omega,rU (by omega),rU (by omega)⟩,by omega,fun k a=>?_,c,h⟩;rw[Bool.not_eq_true,List.any_eq_false]at b;have:=b k a;simpa using this
 ·cases h
theorem kT.sb{o:Ob}(h:kT o):∀e∈o.entries,1≤e.mode∧e.mode≤3:=fun e a=>(mY h.ents e a).2.1
inductive ae:List Ob→Prop
 |nil:ae []
 |snoc {l:List Ob} {o:Ob} (h:ae l) (ho:bQ o=0) (hl:dH l o=true) (hn:o∉l) (hlen:l.length<600):ae (l++[o])
theorem ae.len{l:List Ob}(h:ae l):l.length≤600:=by
 cases h with
 |nil=>simp
 |snoc _ _ _ _ h=>simp;omega
theorem ae.mem{l:List Ob}(h:ae l):∀o∈l,kT o:=by
 induction h with
 |nil=>intro o a;cases a
 |snoc _ a _ _ _ ih=>
  intro u hu;rcases List.mem_append.1 hu with hu|hu
  ·exact ih u hu
  ·rw[List.mem_singleton]at hu;subst hu;exact oD a
def ao(l:List Ob)(o:Ob):Int×Int×List Ob:=
 if bQ o≠0 then(0,bQ o,l)else if dH l o=false then(0,14,l)else if 0≤bh (fun x=>decide (x=o)) l then(bh (fun x=>decide (x=o)) l,0,l)
 else if l.length=600 then(0,15,l)else(l.length,0,l++[o])
theorem zJ{α:Type}{p:α→Bool}{l:List α}(h:¬0≤bh p l):l.any p=false:=by rw[←oh];simpa using h
theorem fK{l:List Ob}(h:ae l)(o:Ob):ae (ao l o).2.2:=by
 unfold ao;split
 ·exact h
 split
 ·exact h
 split
 ·exact h
 split
 ·exact h
 rename_i a b c e;refine .snoc h (by simpa using a) (by simpa using b) ?_ (by have:=h.len;omega);have:=zJ c;rw[List.any_eq_false]at this;intro d;simpa using this o d
def ab(l:List Ob)(id:Int):Ob:=if id<0 then ml else(l[id.toNat]?).getD ml
theorem jg{l:List Ob}{id:Int}(h:¬id<0)(h2:id.toNat<l.length):ab l id=l[id.toNat]:=by
 unfold ab;rw[if_neg h,List.getElem?_eq_getElem h2];rfl
theorem cH{l:List Ob}{id:Int}:(ab l id).kind=kindOf l id:=by
 unfold ab kindOf;split
 ·rfl
 ·cases l[id.toNat]? <;>rfl
theorem bJ{l:List Ob}{id:Int}(h:¬kindOf l id=0):¬id<0∧id.toNat<l.length:=by
 by_cases a:id<0
 ·exact absurd (zY a).symm h
 ·refine⟨a,?_⟩;by_cases b:(l.length:Int)≤id
  ·exact absurd (zX b).symm h
  ·omega
theorem ae.get{l:List Ob}(h:ae l){id:Int}(h1:¬kindOf l id=0):kT (ab l id):=by
 obtain⟨b,a⟩:=bJ h1;rw[jg b a];exact h.mem _ (List.getElem_mem a)
theorem ae.l8{l:List Ob}(h:ae l){id:Int}(h1:kindOf l id=0):ab l id=ml:=by
 unfold ab;split
 ·rfl
 ·cases a:l[id.toNat]? with
  |none=>rfl
  |some o=>
   exfalso;have:=(h.mem o (List.mem_of_getElem? a)).k1;unfold kindOf at h1;rw[if_neg ‹_›,a]at h1;simp at h1;omega
def dR(l:List Ob)(id:Int):List Int:=((ab l id).entries.filter fun e=>decide (e.mode≠3)).map (·.id)++((if(ab l id).kind=3 then[(ab l id).tree]else[])++(ab l id).parents)
theorem AP{l:List Ob}(h:ae l)(id:Int):(dR l id).length≤64:=by
 unfold dR;by_cases a:kindOf l id=0
 ·rw[h.l8 a];simp[ml]
 ·have:=h.get a;have c:=this.entries;have d:=this.parents;have b:=List.length_filter_le (fun e:aF=>decide (e.mode≠3)) (ab l id).entries;rw[List.length_append,List.length_append,List.length_map];split<;>simp<;>simp at b<;>omega
end Go.Nest
end
section
namespace Go.Nest
open Go Go.AM
inductive db(l:List Ob)(ids:List Int):Int→Prop
 |base {k:Int} (h:k∈ids) (hk:¬kindOf l k=0):db l ids k
 |step {j k:Int} (h:db l ids j) (hk:k∈dR l j):db l ids k
theorem ni{l m:List Ob}{k:Int}(h:¬kindOf l k=0):kindOf (l++m) k=kindOf l k:=by
 obtain⟨a,b⟩:=bJ h;unfold kindOf;rw[if_neg a,if_neg a,List.getElem?_append_left b]
theorem Lc{l:List Ob}{o:Ob}:kindOf (l++[o]) l.length=o.kind:=by
 unfold kindOf;rw[if_neg (by omega)];simp
theorem n5{l m:List Ob}{k:Int}(h2:k<l.length):ab (l++m) k=ab l k:=by
 unfold ab;split
 ·rfl
 ·rw[List.getElem?_append_left (by omega)]
theorem ru{l:List Ob}{o:Ob}:ab (l++[o]) l.length=o:=by
 unfold ab;rw[if_neg (by omega)];simp
theorem HU{l m:List Ob}{k:Int}(h2:k<l.length):dR (l++m) k=dR l k:=by unfold dR;rw[n5 h2]
theorem Hs{l:List Ob}{j k:Int}(h:k∈dR l j):(∃e∈(ab l j).entries,e.mode≠3∧e.id=k)∨((ab l j).kind=3∧k=(ab l j).tree)∨k∈(ab l j).parents:=by
 unfold dR at h;rw[List.mem_append,List.mem_append,List.mem_map]at h;rcases h with⟨e,a,h⟩|h|h
 ·rw[List.mem_filter]at a;exact .inl ⟨e,a.1,by simpa using a.2,h⟩
 ·split at h
  ·rw[List.mem_singleton]at h;exact .inr (.inl ⟨‹_›,h⟩)
  ·cases h
 ·exact .inr (.inr h)
theorem GY{l:List Ob}{o:Ob}(ho:kT o)(hl:dH l o=true){j k:Int}(c:ab (l++[o]) j=o)(h:k∈dR (l++[o]) j):¬kindOf l k=0:=by
 unfold dH at hl;rw[Bool.and_eq_true,Bool.and_eq_true,List.all_eq_true,List.all_eq_true]at hl;have:=Hs h;rw[c]at this;rcases this with⟨e,b,h1,rfl⟩|⟨h1,rfl⟩|h1
 ·have a:=hl.1 e b;have d:=ho.sb e b;rw[decide_eq_true_iff]at a;omega
 ·have a:=hl.2.2;simp[h1]at a;omega
 ·have a:=hl.2.1 k h1;rw[decide_eq_true_iff]at a;omega
theorem vM{l:List Ob}(hl:ae l){j k:Int}(h:k∈dR l j):¬kindOf l k=0∧k<j:=by
 induction hl with
 |nil=>unfold dR ab at h;split at h<;>simp[ml]at h
 | @snoc l o n g c m e ih=>
  by_cases f:j<l.length
  ·rw[HU f]at h;obtain⟨a,d⟩:=ih h;exact⟨by rw[ni a];exact a,d⟩
  ·by_cases b:j=l.length
   ·subst b;have a:=GY (oD g) c ru h;obtain⟨d,i⟩:=bJ a;exact⟨by rw[ni a];exact a,by omega⟩
   ·exfalso
    have:ab (l++[o]) j=ml:=by
     unfold ab;rw[if_neg (by omega),List.getElem?_eq_none (by rw[List.length_append,List.length_singleton];omega)];rfl
    unfold dR at h;rw[this]at h;simp[ml]at h
theorem db.kind{l:List Ob}{ids:List Int}(hl:ae l){k:Int}(h:db l ids k):¬kindOf l k=0:=by
 cases h with
 |base _ a=>exact a
 |step _ a=>exact(vM hl a).1
noncomputable def aZ(l:List Ob)(ids:List Int):List Int:=((List.range l.length).filter fun k:Nat=> @decide (db l ids (k:Int)) (Classical.propDecidable _)).map fun k:Nat=>(k:Int)
def Mk(vis:List Bool)(k:Int):Prop:=∃n:Nat,k=n∧vis[n]? =some true
def mo(vis:List Bool)(i:Nat):List Int:=((List.range i).filter fun k:Nat=>(vis[k]?).getD false).map fun k:Nat=>(k:Int)
theorem Ij{vis:List Bool}{i:Nat}(h:i<vis.length):mo vis (i+1)=mo vis i++(if vis[i]=true then[(i:Int)]else[]):=by
 unfold mo;rw[List.range_succ,List.filter_append,List.map_append];congr 1
 cases a:vis[i]<;>simp[List.getElem?_eq_getElem h,a]
theorem Ih{vis:List Bool}{i:Nat}:(mo vis i).length≤i:=by
 unfold mo;rw[List.length_map];exact Nat.le_trans (List.length_filter_le _ _) (by simp)
theorem Ii{l:List Ob}{ids:List Int}{vis:List Bool}(hv:vis.length=l.length)(h:∀k,Mk vis k↔db l ids k):mo vis l.length=aZ l ids:=by
 unfold mo aZ;congr 1
 refine List.filter_congr fun k c=>?_;rw[List.mem_range]at c;have:=h k;rw[Bool.eq_iff_iff,@decide_eq_true_iff _ (Classical.propDecidable _),←this];unfold Mk;constructor
 ·intro a;refine⟨k,rfl,?_⟩;rw[List.getElem?_eq_getElem (by omega)]at a⊢;simpa using a
 ·rintro⟨n,a,b⟩;obtain rfl:k=n:=by omega
  rw[b];rfl
theorem Mk.set{vis:List Bool}{n:Nat}{k:Int}(hn:n<vis.length):Mk (vis.set n true) k↔Mk vis k∨k=n:=by
 unfold Mk;constructor
 ·rintro⟨m,rfl,h⟩;by_cases e:n=m
  ·subst e;exact .inr rfl
  ·rw[List.getElem?_set_ne e]at h;exact .inl ⟨m,rfl,h⟩
 ·rintro(⟨m,rfl,h⟩|rfl)
  ·by_cases e:n=m
   ·subst e;exact⟨n,rfl,by rw[List.getElem?_set_self hn]⟩
   ·exact⟨m,rfl,by rw[List.getElem?_set_ne e];exact h⟩
  ·exact⟨n,rfl,by rw[List.getElem?_set_self hn]⟩
theorem count_set:∀{vis:List Bool} {n:Nat},vis[n]? =some false→(vis.set n true).count true=vis.count true+1
 |b::v,0,h=>by simp at h;subst h;simp
 |b::v,n+1,h=>by
  simp at h;rw[List.set_cons_succ,List.count_cons,List.count_cons,count_set h];omega
theorem db.of_closed{l:List Ob}{ids:List Int}{vis:List Bool}(h1:∀k∈ids,¬kindOf l k=0→Mk vis k)(h2:∀j,Mk vis j→∀k∈dR l j,Mk vis k){k:Int}(h:db l ids k):Mk vis k:=by
 induction h with
 |base h a=>exact h1 _ h a
 |step _ a ih=>exact h2 _ ih _ a
theorem AR{n:Nat}{k:Int}:¬Mk (List.replicate n false) k:=by
 rintro⟨m,rfl,h⟩;rw[List.getElem?_replicate]at h;split at h<;>cases h
end Go.Nest
end
section
namespace Go.Nest
open Go Go.AM
theorem ae.nodup{l:List Ob}(h:ae l):l.Nodup:=by
 induction h with
 |nil=>exact List.nodup_nil
 |snoc _ _ _ d _ ih=>
  rw[List.nodup_append];exact⟨ih,by simp,fun a c b hb=>by rw[List.mem_singleton]at hb;subst hb;intro e;subst e;exact d c⟩
theorem Ah{l m:List Ob}{o:Ob}(ho:kT o)(h:dH l o=true):dH (l++m) o=true:=by
 unfold dH at h⊢;rw[Bool.and_eq_true,Bool.and_eq_true,List.all_eq_true,List.all_eq_true]at h⊢;refine⟨fun e c=>?_,fun k d=>?_,?_⟩
 ·have a:=h.1 e c;have f:=ho.sb e c;rw[decide_eq_true_iff]at a⊢;rw[ni (by omega)];exact a
 ·have a:=h.2.1 k d;rw[decide_eq_true_iff]at a⊢;rw[ni (by omega)];exact a
 ·have a:=h.2.2;by_cases b:o.kind=3
  ·simp[b]at a⊢;rw[ni (by omega)];exact a
  ·simp[b]
theorem ae.obj{l:List Ob}(h:ae l):∀o∈l,bQ o=0∧dH l o=true:=by
 induction h with
 |nil=>intro o a;cases a
 |snoc c a b _ _ ih=>
  intro u hu;rcases List.mem_append.1 hu with hu|hu
  ·exact⟨(ih u hu).1,Ah (oD (ih u hu).1) (ih u hu).2⟩
  ·rw[List.mem_singleton]at hu;subst hu;exact⟨a,Ah (oD a) b⟩
theorem Be{l:List Ob}(h:ae l){k:Nat}(hk:k<l.length):ao l l[k]=((k:Int),0,l):=by
 obtain⟨b,c⟩:=h.obj _ (List.getElem_mem hk)
 have d := jM (p := fun x => decide (x = l[k])) hk (by
  rw[List.any_eq_false];intro x f a;rw[decide_eq_true_iff]at a;subst a;obtain⟨j,g,e⟩:=List.mem_take_iff_getElem.1 f;have:=(List.getElem_inj h.nodup).1 e;omega) (by simp)
 unfold ao;rw[if_neg (by simpa using b),if_neg (by simp[c]),if_pos (by omega),←d]
theorem jk{l:List Ob}{ids:List Int}(hl:ae l){k:Int}:k∈aZ l ids↔db l ids k:=by
 unfold aZ;rw[List.mem_map];constructor
 ·rintro⟨n,a,rfl⟩;rw[List.mem_filter]at a;exact(@decide_eq_true_iff _ (Classical.propDecidable _)).1 a.2
 ·intro h;obtain⟨a,b⟩:=bJ (h.kind hl);refine⟨k.toNat,List.mem_filter.2 ⟨by rw[List.mem_range];exact b,?_⟩,by omega⟩;rw[show((k.toNat:Nat):Int)=k by omega];exact(@decide_eq_true_iff _ (Classical.propDecidable _)).2 h
theorem sH{l:List Ob}{ids:List Int}:(aZ l ids).Pairwise (· < ·):=by
 unfold aZ;rw[List.pairwise_map];have:=(List.pairwise_lt_range (n:=l.length)).filter (fun k:Nat=> @decide (db l ids (k:Int)) (Classical.propDecidable _));exact this.imp (fun h=>by omega)
theorem oL{l:List Ob}{ids:List Int}:(aZ l ids).length≤l.length:=by
 unfold aZ;rw[List.length_map];exact Nat.le_trans (List.length_filter_le _ _) (by simp)
end Go.Nest
end
section
namespace Go.Nest
open Go Go.AM Go.Proofs
open Go.Proofs.YtpechfcbnoggfaaGreatDoor (tab tabOk)
set_option maxRecDepth 4000
theorem Cs(n:Int):IntKind.u64.wrap n=n%18446744073709551616:=by
 unfold IntKind.wrap;simp[IntKind.bits,IntKind.signed]
theorem KB{n:Int}(a:0≤n)(h:n≤9223372036854775807):IntKind.i64.wrap n=n:=by
 have e:n%18446744073709551616=n:=Int.emod_eq_of_lt a (by omega);unfold IntKind.wrap;simp only[IntKind.bits,IntKind.signed];show(if(true&&decide (n%18446744073709551616≥9223372036854775808))=true then n%18446744073709551616-18446744073709551616 else n%18446744073709551616)=n;rw[e,if_neg (by simp;omega)]
theorem I9{k:Int}{n:Nat}(c:n≠0)(h:n≤9223372036854775807):IntKind.i64.wrap ((IntKind.u64.wrap k).tmod (IntKind.u64.wrap n))=((k%18446744073709551616%n).toNat:Nat)∧(k%18446744073709551616%n).toNat<n:=by
 have e:(n:Int)%18446744073709551616=n:=Int.emod_eq_of_lt (by omega) (by omega);have a:0≤k%18446744073709551616:=Int.emod_nonneg _ (by decide);have b:0≤k%18446744073709551616%n:=Int.emod_nonneg _ (by omega);have d:k%18446744073709551616%n<n:=Int.emod_lt_of_pos _ (by omega);rw[Cs,Cs,e,Int.tmod_eq_emod_of_nonneg a,KB b (by omega)];omega
end Go.Nest
end
section
namespace Go.Nest
open Go Go.AM Go.Proofs
open Go.Proofs.YtpechfcbnoggfaaGreatDoor (tab tabOk)
set_option maxRecDepth 4000
theorem HT:ai Tryz.prog 49 [] [] (Rt (.c (.ptr 0 0)) [.box [.rw 1],.row 6 Ob ak []]):=by
 refine an (n:=3) (n0:=0) tabOk Tryz.call49 Tryz.func49 ?_;intro hb;(conv=>whnf);exact rx [] [.same 0,.new]
theorem gT(l:List Ob)(hl:ae l)(id:Int):ai Tryz.prog 166 [.c (.bp [.bs 6 Ob ak l]),.c (.int .i64 id)] [] (Rt (.aL [(true,ak (ab l id)),(false,[.bool (decide (kindOf l id≠0))])]) []):=by
 refine an (n:=19) (n0:=0) tabOk Tryz.call166 Tryz.func166 ?_;intro hb;skip;(conv=>whnf);refine cl [] [] (oq l id) ?_;repeat'((conv=>whnf);first|(refine dec (fun h=>?_) (fun h=>?_)<;>try contradiction)|fail)
 ·rw[hl.l8 h,h];(conv=>whnf);exact rx [] []
 ·obtain⟨d,b⟩:=bJ h;have a:=hl.get h;rw[show decide (kindOf l id≠0)=true from decide_eq_true h];rw[jg d b]at a⊢;(conv=>whnf);refine⟨id.toNat,l[id.toNat],by omega,List.getElem?_eq_getElem b,?_⟩;skip;(conv=>whnf);refine cl [] [] (A4 l[id.toNat] (by have:=a.bytes;omega) (by have:=a.entries;omega) (by have:=a.parents;omega)) ?_;(conv=>whnf);exact rx [] []
theorem Fq{es:List aF}{i:Nat}(h:i<es.length):((es.take (i+1)).filter fun e=>decide (e.mode≠3)).map (·.id)=((es.take i).filter fun e=>decide (e.mode≠3)).map (·.id)++(if es[i].mode=3 then[]else[es[i].id]):=by
 rw[List.take_succ_eq_append_getElem h,List.filter_append,List.map_append];congr 1
 by_cases a:es[i].mode=3<;>simp[a]
theorem yU{es:List aF}{i:Nat}(h:es.length≤60):(((es.take i).filter fun e=>decide (e.mode≠3)).map (·.id)).length≤60:=by
 rw[List.length_map];refine Nat.le_trans (List.length_filter_le _ _) ?_;rw[List.length_take];omega
set_option maxHeartbeats 1000000 in
theorem HV(l:List Ob)(hl:ae l)(id:Int):ai Tryz.prog 104 [.c (.bp [.bs 6 Ob ak l]),.c (.int .i64 id)] [] (Rt (.c (.rw 0)) [.row 1 Int encI (dR l id)]):=by
 refine lQ (n:=46) (n0:=0) tabOk Tryz.call104 Tryz.func104 ?_;intro hb;refine XM.seq ?_;skip;refine XM.seq ?_;skip;(conv=>whnf);refine cl [] [] (gT l hl id) ?_;skip;refine XM.seq ?_;repeat'((conv=>whnf);first|(refine ay (fun h=>?_) (fun h=>?_)<;>try contradiction)|fail)
 ·(conv=>whnf);rw[show dR l id=[]by unfold dR;rw[hl.l8 (Decidable.not_not.1 h)];rfl];exact rx [] [.new]
 have d:=hl.get h;have k:=d.entries;refine XM.seq ?_;skip;refine XM.join (ι:=Unit) (fun _=>⟨[(5,.c (.ptr 0 0)),(7,.c (.rw 1))],[.box (ak (ab l id)),.row 1 Int encI (((ab l id).entries.filter fun e=>decide (e.mode≠3)).map (·.id))]⟩) (fun _=>True) ?_ (fun _ _=>?_)
 ·(conv=>whnf)
  refine lp Nat (fun i => ⟨[(5,.c (.ptr 0 0)),(7,.c (.rw 1)),(19,.c (.bs 4 aF cX (ab l id).entries)),(20,.c (.int .i64 (ab l id).entries.length)),(21,.c (.int .i64 i))],
   [.box (ak (ab l id)),.row 1 Int encI ((((ab l id).entries.take i).filter fun e=>decide (e.mode≠3)).map (·.id))]⟩) (fun i=>i≤(ab l id).entries.length∧True) (fun i=>(ab l id).entries.length-i) 0 [] [.same 0,.new] ?_ ?_ (fun i m=>?_)
  ·exact⟨Nat.zero_le _,trivial⟩
  ·repeat' first|exact trivial|exact rfl|refine And.intro ?_ ?_
  (conv=>whnf);refine dec (fun g=>?_) (fun g=>?_)
  ·have a:i<(ab l id).entries.length:=by omega
   have f:=Fq a;have b:=yU (i:=i) d.entries;repeat'((conv=>whnf);first|(refine ay (fun h=>?_) (fun h=>?_)<;>try contradiction)|refine⟨i64 (by omega) (by omega),?_⟩|refine⟨_,_,rfl,List.getElem?_eq_getElem (by omega),?_⟩|fail)
   ·rw[if_neg h]at f;(conv=>whnf);refine⟨[(ab l id).entries[i].id],rfl,?_⟩;(conv=>whnf);refine⟨_,_,rfl,rfl,(by simp only[List.length_append,List.length_cons,List.length_nil];omega),?_⟩;repeat'((conv=>whnf);refine I6 ?_)
    refine ag (i+1) [] [.same 0,.same 4] ⟨a,trivial⟩ (by simp only[];omega) ?_;repeat' first|exact trivial|exact rfl|refine And.intro ?_ ?_
    rw[f];exact rfl
   ·rw[if_pos h,List.append_nil]at f;skip;refine ag (i+1) [] [.same 0,.same 1] ⟨a,trivial⟩ (by simp only[];omega) ?_;repeat' first|exact trivial|exact rfl|refine And.intro ?_ ?_
    rw[f];exact rfl
  ·have:(ab l id).entries.take i=(ab l id).entries:=List.take_of_length_le (by omega);rw[this];(conv=>whnf);refine⟨(),trivial,[],[.same 0,.same 1],?_⟩;repeat' first|exact trivial|exact rfl|refine And.intro ?_ ?_
 have b:=yU (i:=(ab l id).entries.length) d.entries;rw[List.take_length]at b;have o:=d.parents;refine XM.join (ι:=Unit) (fun _=>⟨[(5,.c (.ptr 0 0)),(7,.c (.rw 1))],[.box (ak (ab l id)),.row 1 Int encI (((ab l id).entries.filter fun e=>decide (e.mode≠3)).map (·.id)++(if(ab l id).kind=3 then[(ab l id).tree]else[]))]⟩) (fun _=>True) ?_ (fun _ _=>?_)
 ·repeat'((conv=>whnf);first|(refine dec (fun h=>?_) (fun h=>?_)<;>try contradiction)|fail)
  ·(conv=>whnf);refine⟨[(ab l id).tree],rfl,?_⟩;(conv=>whnf);refine⟨_,_,rfl,rfl,(by simp only[List.length_append,List.length_cons,List.length_nil];omega),?_⟩;(conv=>whnf);rw[if_pos ‹(ab l id).kind=3›];refine⟨(),trivial,[],[.same 0,.same 3],?_⟩;repeat' first|exact trivial|exact rfl|refine And.intro ?_ ?_
  ·(conv=>whnf);rw[if_neg ‹¬(ab l id).kind=3›,List.append_nil];refine⟨(),trivial,[],[.same 0,.same 1],?_⟩;repeat' first|exact trivial|exact rfl|refine And.intro ?_ ?_
 have j:(if(ab l id).kind=3 then[(ab l id).tree]else[]).length≤1:=by split<;>simp
 refine XM.of ?_;(conv=>whnf);refine⟨_,_,rfl,rfl,(by simp only[List.length_append,List.length_cons,List.length_nil];omega),?_⟩;(conv=>whnf);rw[show dR l id=_ from(List.append_assoc _ _ _).symm];exact rx [] [.same 2]
end Go.Nest
end
section
namespace Go.Nest
open Go Go.AM Go.Proofs
open Go.Proofs.YtpechfcbnoggfaaGreatDoor (tab tabOk)
set_option maxRecDepth 4000
theorem IG(x o:Ob):ai Tryz.prog 273 [.st (ia x),.c (.bp (ia o))] [] (Rt (.c (.bool (decide (x=o)))) []):=by
 refine an (n:=7) (n0:=0) tabOk Tryz.call273 Tryz.func273 ?_;intro hb;(conv=>whnf);refine cl [] [] (Jy x o) ?_;repeat'((conv=>whnf);first|refine aG ?_|fail)
 rfl
theorem Gn(l:List Ob)(o:Ob):ai Tryz.prog 272 [.c (.bs 6 Ob ak l),.c (.fn 273 [.bp (ia o)])] [] (Rt (.c (.int .i64 (bh (fun x=>decide (x=o)) l))) []):=by
 refine an (n:=19) (n0:=0) tabOk Tryz.call272 Tryz.func272 ?_;intro hb;have hb:l.length≤9223372036854775807:=hb.1.1;(conv=>whnf);refine lp Nat (fun i=>⟨[(0,.c (.bs 6 Ob ak l)),(1,.c (.fn 273 [.bp (ia o)])),(7,.c (.int .i64 l.length)),(8,.c (.int .i64 i))],[]⟩) (fun i=>i≤l.length∧(l.take i).any (fun x=>decide (x=o))=false) (fun i=>l.length-i) 0 [] [] ?_ ?_ (fun i b=>?_)
 ·simp
 ·repeat' first|exact trivial|exact rfl|refine And.intro ?_ ?_
 (conv=>whnf);refine dec (fun d=>?_) (fun d=>?_)
 ·have a:i<l.length:=by omega
  repeat'((conv=>whnf);first|refine⟨_,_,rfl,List.getElem?_eq_getElem (by omega),?_⟩|fail)
  (conv=>whnf);refine cl [] [] (IG l[i] o) ?_;repeat'((conv=>whnf);first|(refine dec (fun h=>?_) (fun h=>?_)<;>try contradiction)|refine⟨i64 (by omega) (by omega),?_⟩|refine aK ?_|fail)
  ·exact jM a b.2 (by simpa using h)
  ·refine ag (i+1) [] [] ⟨a,hU a b.2 (by simpa using h)⟩ (by simp only[];omega) ?_;repeat' first|exact trivial|exact rfl|refine And.intro ?_ ?_
 ·repeat'((conv=>whnf);first|refine aK ?_|fail)
  have:=b.2;rw[List.take_of_length_le (by omega)]at this;exact kx this
theorem qd(l:List Ob)(o:Ob)(hl:l.length≤600):ai Tryz.prog 203 [.c (.ptr 0 0),.st (ia o)] [.box [.rw 1],.row 6 Ob ak l] (Rt (.aL [(false,[.int .i64 (ao l o).1]),(false,[.int .i64 (ao l o).2.1])]) [.box [.rw 2],.dead,.row 6 Ob ak (ao l o).2.2]):=by
 refine lQ (n:=49) (n0:=2) tabOk Tryz.call203 Tryz.func203 ?_;intro hb;refine XM.seq ?_;skip;refine XM.seq ?_;(conv=>whnf);refine cl [] [] (DH o) ?_;repeat'((conv=>whnf);first|(refine ay (fun h=>?_) (fun h=>?_)<;>try contradiction)|fail)
 ·have a:ao l o=(0,bQ o,l):=by unfold ao;rw[if_pos h]
  rw[a];(conv=>whnf);exact rx [] [.same 0,.same 1,.same 1]
 have b:bQ o=0:=by simpa using h
 have e:=oD b;refine XM.seq ?_;skip;(conv=>whnf);refine cl [] [] (G0 l o e.sb) ?_;repeat'((conv=>whnf);first|refine dV (fun h=>?_) (fun h=>?_)|fail)
 ·have a:ao l o=(0,14,l):=by unfold ao;rw[if_neg (by simpa using b),if_pos h]
  rw[a];(conv=>whnf);exact rx [] [.same 0,.same 1,.same 1]
 have f:=h;refine XM.seq ?_;skip;(conv=>whnf);refine cl [] [] (Gn l o) ?_;repeat'((conv=>whnf);first|(refine dec (fun h=>?_) (fun h=>?_)<;>try contradiction)|fail)
 ·have d:=h;have a:ao l o=(bh (fun x=>decide (x=o)) l,0,l):=by unfold ao;rw[if_neg (by simpa using b),if_neg (by simp[f]),if_pos d]
  rw[a];(conv=>whnf);exact rx [] [.same 0,.same 1,.same 1]
 have d:=h;refine XM.seq ?_;repeat'((conv=>whnf);first|(refine dec (fun h=>?_) (fun h=>?_)<;>try contradiction)|fail)
 ·have g:=h;have a:ao l o=(0,15,l):=by unfold ao;rw[if_neg (by simpa using b),if_neg (by simp[f]),if_neg d,if_pos (by omega)]
  rw[a];(conv=>whnf);exact rx [] [.same 0,.same 1,.same 1]
 have g:=h;have a:ao l o=(((l++[o]).length:Int)-1,0,l++[o]):=by unfold ao;rw[if_neg (by simpa using b),if_neg (by simp[f]),if_neg d,if_neg (by omega)];simp
 rw[a];refine XM.of ?_;(conv=>whnf);refine⟨false,.grow,(.l [0,1,2,3,4,5,6,7,8,9,10,11]),by kernel_rfl,.inl ?_⟩;skip;(conv=>whnf);refine cl [] [] (A4 o (by have:=e.bytes;omega) (by have:=e.entries;omega) (by have:=e.parents;omega)) ?_;(conv=>whnf);refine⟨[o],rfl,?_⟩;(conv=>whnf);refine⟨_,_,rfl,rfl,(by simp only[List.length_append,List.length_cons,List.length_nil];omega),?_⟩;have i:(l++[o]).length≤600:=by rw[List.length_append,List.length_singleton];omega
 repeat'((conv=>whnf);refine I6 ?_)
 (conv=>whnf);exact rx [] [.same 0,.same 1,.same 4]
end Go.Nest
end
section
namespace Go.Nest
open Go Go.AM Go.Proofs
open Go.Proofs.YtpechfcbnoggfaaGreatDoor (tab tabOk)
set_option maxRecDepth 4000
structure iB(l:List Ob)(ids:List Int)(vis:List Bool)(todo:List Int):Prop where
 len:vis.length=l.length
 sound:∀k,Mk vis k→db l ids k
 td:∀k∈todo,¬kindOf l k=0→db l ids k
 base:∀k∈ids,¬kindOf l k=0→k∈todo∨Mk vis k
 clos:∀j,Mk vis j→∀k∈dR l j,k∈todo∨Mk vis k
 size:todo.length≤ids.length+64*vis.count true
def jD(todo:List Int):List Int:=(todo.drop 0).take (todo.length-1-0)
theorem Cd{todo:List Int}(h:0<todo.length):todo=jD todo++[todo[todo.length-1]'(by omega)]:=by
 unfold jD;rw[List.drop_zero,Nat.sub_zero];have:=List.take_succ_eq_append_getElem (l:=todo) (i:=todo.length-1) (by omega);rw[←this,Nat.sub_add_cancel (by omega),List.take_length]
theorem pg{todo:List Int}:(jD todo).length=todo.length-1:=by unfold jD;simp
theorem iB.skip{l:List Ob}(hl:ae l){ids:List Int}{vis:List Bool}{todo:List Int}(h:iB l ids vis todo)(f:0<todo.length){id:Int}(hid:id=todo[todo.length-1]'(by omega))(hk:kindOf l id=0∨Mk vis id):
  iB l ids vis (jD todo):=by
 have e:=Cd f;rw[←hid]at e;refine⟨h.len,h.sound,fun k b=>h.td k (by rw[e];exact List.mem_append_left _ b),fun k a c=>?_,fun j d k a=>?_,?_⟩
 ·rcases h.base k a c with h3|h3
  ·rw[e,List.mem_append,List.mem_singleton]at h3;rcases h3 with h3|h3
   ·exact .inl h3
   ·subst h3;exact .inr (hk.resolve_left c)
  ·exact .inr h3
 ·rcases h.clos j d k a with h3|h3
  ·rw[e,List.mem_append,List.mem_singleton]at h3;rcases h3 with h3|h3
   ·exact .inl h3
   ·subst h3;exact .inr (hk.resolve_left (vM hl a).1)
  ·exact .inr h3
 ·have:=h.size;rw[pg];omega
theorem iB.visit{l:List Ob}(hl:ae l){ids:List Int}{vis:List Bool}{todo:List Int}(h:iB l ids vis todo)(m:0<todo.length){id:Int}(hid:id=todo[todo.length-1]'(by omega))(hk:¬kindOf l id=0)(hm:vis[id.toNat]? =some false):
  iB l ids (vis.set id.toNat true) (jD todo++dR l id):=by
 obtain⟨n,g⟩:=bJ hk;have e:=Cd m;rw[←hid]at e;have b:db l ids id:=h.td id (by rw[e];simp) hk
 have a:∀k,Mk (vis.set id.toNat true) k↔Mk vis k∨k=id:=fun k=>by
  rw[Mk.set (by rw[h.len];exact g)];rw[show((id.toNat:Nat):Int)=id by omega]
 refine⟨by rw[List.length_set,h.len],fun k c=>?_,fun k c f=>?_,fun k d f=>?_,fun j i k d=>?_,?_⟩
 ·rcases(a k).1 c with h3|rfl
  ·exact h.sound k h3
  ·exact b
 ·rcases List.mem_append.1 c with h3|h3
  ·exact h.td k (by rw[e];exact List.mem_append_left _ h3) f
  ·exact .step b h3
 ·rw[a,List.mem_append];rcases h.base k d f with h3|h3
  ·rw[e,List.mem_append,List.mem_singleton]at h3;rcases h3 with h3|h3
   ·exact .inl (.inl h3)
   ·exact .inr (.inr h3)
  ·exact .inr (.inl h3)
 ·rw[a,List.mem_append];rcases(a j).1 i with h3|rfl
  ·rcases h.clos j h3 k d with h3|h3
   ·rw[e,List.mem_append,List.mem_singleton]at h3;rcases h3 with h3|h3
    ·exact .inl (.inl h3)
    ·exact .inr (.inr h3)
   ·exact .inr (.inl h3)
  ·exact .inl (.inr d)
 ·have:=h.size;have f:=AP hl id;rw[List.length_append,pg,count_set hm];omega
theorem iB.start{l:List Ob}{ids:List Int}:iB l ids (List.replicate l.length false) ids:=
 ⟨by simp,fun k h=>(AR h).elim,fun k a b=>.base a b,fun k a _=>.inl a,fun j h=>(AR h).elim,by omega⟩
theorem iB.stop{l:List Ob}{ids:List Int}{vis:List Bool}{todo:List Int}(h:iB l ids vis todo)(d:todo.length=0):vis.length=l.length∧∀k,Mk vis k↔db l ids k:=by
 have:todo=[]:=List.eq_nil_of_length_eq_zero d;subst this;exact⟨h.len,fun k=>⟨h.sound k,db.of_closed (fun k a b=>(h.base k a b).resolve_left (by simp)) (fun j c k a=>(h.clos j c k a).resolve_left (by simp))⟩⟩
theorem oN(l:List Ob)(hl:ae l)(ids:List Int)(hi:ids.length≤1000000):ai Tryz.prog 40 [.c (.bp [.bs 6 Ob ak l]),.c (.bs 1 Int encI ids)] [] (Rt (.c (.rw 0)) [.row 1 Int encI (aZ l ids)]):=by
 refine lQ (n:=66) (n0:=0) tabOk Tryz.call40 Tryz.func40 ?_;intro hb;have t:=hl.len;refine XM.seq ?_;skip;refine XM.seq ?_;(conv=>whnf);refine⟨l.length,false,⟨rfl,rfl⟩,rfl,by simp only[];omega,?_⟩;skip;refine XM.seq ?_;(conv=>whnf);refine cl [] [] (qY ids (by omega)) ?_;skip;refine XM.join (ι:=List Bool) (fun a=>⟨[(5,.c (.rw 0))],[.row 1 Bool aj a]⟩) (fun a=>a.length=l.length∧∀k,Mk a k↔db l ids k) ?_ (fun a g=>?_)
 ·(conv=>whnf);refine lp (List Bool×List Int) (fun|(a,b)=>⟨[(0,.c (.bp [.bs 6 Ob ak l])),(5,.c (.rw 0)),(6,.c (.rw 1))],[.row 1 Bool aj a,.row 1 Int encI b]⟩) (fun x=>iB l ids x.1 x.2∧True) (fun x=>65*(l.length-x.1.count true)+x.2.length) (List.replicate l.length false,ids) [] [.same 0,.same 1] ?_ ?_ (fun x d=>?_)
  ·exact⟨iB.start,trivial⟩
  ·repeat' first|exact trivial|exact rfl|refine And.intro ?_ ?_
  obtain⟨a,b⟩:=x;obtain⟨d,_⟩:=d;dsimp only at d;have f:=d.len;have F:=d.size;have z:a.count true≤a.length:=List.count_le_length;(conv=>whnf);refine dec (fun m=>?_) (fun m=>?_)
  ·have v:0<b.length:=by omega
   have y:((b.drop 0).take (b.length-1-0)).length=b.length-1:=pg;(conv=>whnf);refine⟨i64 (by omega) (by omega),?_⟩;(conv=>whnf);refine⟨b.length-1,⟨by omega,by omega⟩,?_⟩;(conv=>whnf);refine⟨b[b.length-1],List.getElem?_eq_getElem (by omega),?_⟩;generalize hid:b[b.length-1]'(by omega)=id;(conv=>whnf);refine⟨i64 (by omega) (by omega),?_⟩;(conv=>whnf);refine⟨0,b.length-1,rfl,by omega,by omega,?_⟩;(conv=>whnf);refine cl [] [] (oq l id) ?_;(conv=>whnf);have D:=AP hl id;have skip:kindOf l id=0∨Mk a id→65*(l.length-a.count true)+(jD b).length<65*(l.length-a.count true)+b.length∧iB l ids a (jD b):=fun h=>⟨by rw[pg];omega,d.skip hl v hid.symm h⟩;refine dec (fun w=>?_) (fun w=>?_)
   ·obtain⟨I,J⟩:=bJ (l:=l) (id:=id) (by omega);(conv=>whnf);refine⟨id.toNat,⟨by omega,by omega⟩,?_⟩;(conv=>whnf);refine⟨a[id.toNat],List.getElem?_eq_getElem (by omega),?_⟩;(conv=>whnf);refine dV (fun o=>?_) (fun o=>?_)
    ·have u:a[id.toNat]? =some false:=by rw[List.getElem?_eq_getElem (by omega),o]
     have g:=d.visit hl v hid.symm (by omega) u;have H:=count_set u;have p:(a.set id.toNat true).count true≤(a.set id.toNat true).length:=List.count_le_length;rw[List.length_set]at p;(conv=>whnf);refine⟨id.toNat,⟨by omega,by omega⟩,?_⟩;(conv=>whnf);refine⟨_,true,List.getElem?_eq_getElem (by omega),⟨by decide,rfl⟩,?_⟩;(conv=>whnf);refine cl [] [] (HV l hl id) ?_;(conv=>whnf);refine⟨_,_,rfl,rfl,(by simp only[List.length_append,List.length_cons,List.length_nil];omega),?_⟩;(conv=>whnf);refine ag (a.set id.toNat true,jD b++dR l id) [] [.same 0,.same 3] ⟨g,trivial⟩ (by dsimp only;rw[List.length_append,pg];omega) ?_;repeat' first|exact trivial|exact rfl|refine And.intro ?_ ?_
    ·(conv=>whnf);obtain⟨q,r⟩:=skip (.inr ⟨id.toNat,by omega,by rw[List.getElem?_eq_getElem (by omega),o]⟩);refine ag (a,jD b) [] [.same 0,.cut 1 1 0 (b.length-1-0)] ⟨r,trivial⟩ q ?_;repeat' first|exact trivial|exact rfl|refine And.intro ?_ ?_
     omega
   ·(conv=>whnf)
    have:kindOf l id=0:=by
     by_cases s:kindOf l id=0
     ·exact s
     ·have:=(hl.get s).k1;rw[cH]at this;omega
    obtain⟨q,r⟩:=skip (.inl this);refine ag (a,jD b) [] [.same 0,.cut 1 1 0 (b.length-1-0)] ⟨r,trivial⟩ q ?_;repeat' first|exact trivial|exact rfl|refine And.intro ?_ ?_
    omega
  ·(conv=>whnf);refine⟨a,d.stop (by omega),[],[.same 0],?_⟩;repeat' first|exact trivial|exact rfl|refine And.intro ?_ ?_
 obtain⟨f,g⟩:=g;rw[←Ii f g];refine XM.seq ?_;skip;refine XM.seq ?_;(conv=>whnf);refine lp Nat (fun i=>⟨[(8,.c (.rw 1)),(52,.c (.rw 0)),(53,.c (.int .i64 a.length)),(54,.c (.int .i64 i))],[.row 1 Bool aj a,.row 1 Int encI (mo a i)]⟩) (fun i=>i≤a.length∧True) (fun i=>a.length-i) 0 [] [.same 0,.new] ?_ ?_ (fun i hi=>?_)
 ·simp
 ·repeat' first|exact trivial|exact rfl|refine And.intro ?_ ?_
 (conv=>whnf);refine dec (fun m=>?_) (fun m=>?_)
 ·have e:i<a.length:=by omega
  have j:=Ij e;have E:=Ih (vis:=a) (i:=i);repeat'((conv=>whnf);first|refine aW (fun h=>?_) (fun h=>?_)|refine⟨i64 (by omega) (by omega),?_⟩|refine⟨_,⟨rfl,by omega⟩,?_⟩|refine⟨_,List.getElem?_eq_getElem (by omega),?_⟩|fail)
  ·rw[if_pos h]at j;(conv=>whnf);refine⟨[(i:Int)],rfl,?_⟩;(conv=>whnf);refine⟨_,_,rfl,rfl,(by simp only[List.length_append,List.length_cons,List.length_nil];omega),?_⟩;repeat'((conv=>whnf);refine I6 ?_)
   refine ag (i+1) [] [.same 0,.same 3] ⟨e,trivial⟩ (by simp only[];omega) ?_;repeat' first|exact trivial|exact rfl|refine And.intro ?_ ?_
   rw[j];exact rfl
  ·rw[if_neg (by simp[h]),List.append_nil]at j;skip;refine ag (i+1) [] [.same 0,.same 1] ⟨e,trivial⟩ (by simp only[];omega) ?_;repeat' first|exact trivial|exact rfl|refine And.intro ?_ ?_
   rw[j];exact rfl
 ·obtain rfl:i=a.length:=by omega
  rw[←f];(conv=>whnf);refine XM.of ?_;(conv=>whnf);exact rx [] [.same 1]
end Go.Nest
end
