/- part -/
import Derived.Test.YtpechfcbnoggfaaGreatDoorAmH
import Derived.Test.YtpechfcbnoggfaaGreatDoorProg
import Derived.KernelRfl
set_option linter.unusedVariables false
set_option linter.unusedSimpArgs false
section
namespace Go.Proofs.YtpechfcbnoggfaaGreatDoor
open Go Go.AM Go.Nest
def Jk:List (Nat×TD):=[
 (2,⟨1,false,8,(.int .i64),[.int .i64 0],false,Int,encI⟩),
 (3,⟨1,false,8,(.int .i64),[.int .i64 0],false,Int,encI⟩),
 (4,⟨1,false,1,.bool,[.bool false],false,Bool,af⟩),
 (5,⟨1,false,1,(.int .u8),[.int .u8 0],false,UInt8,bt⟩),
 (9,⟨1,false,16,.str,[.str []],false,(List UInt8),encS⟩),
 (21,⟨1,false,4,(.int .i32),[.int .i32 0],false,Unit,(fun _=>[])⟩),
 (22,⟨1,false,24,(.sl 9),[.nil],false,(List (List UInt8)),(bf 1 encS)⟩),
 (25,⟨1,false,8,(.int .u64),[.int .u64 0],false,Unit,(fun _=>[])⟩),
 (29,⟨2,true,16,(.struct [(3,0),(3,1)]),[.int .i64 0,.int .i64 0],false,Unit,(fun _=>[])⟩),
 (33,⟨1,false,24,(.sl 5),[.nil],false,(List UInt8),(bf 1 bt)⟩),
 (39,⟨1,false,24,(.sl 44),[.nil],false,(List Unit),(bf 7 (fun _=>[]))⟩),
 (41,⟨1,false,8,.ptr,[.raw (.pointer none)],false,Unit,(fun _=>[])⟩),
 (44,⟨7,true,96,(.struct [(3,0),(3,1),(3,2),(9,3),(9,4),(9,5),(33,6)]),[.int .i64 0,.int .i64 0,.int .i64 0,.str [],.str [],.str [],.nil],false,Unit,(fun _=>[])⟩),
 (46,⟨3,true,40,(.struct [(3,0),(3,1),(22,2)]),[.int .i64 0,.int .i64 0,.nil],false,Unit,(fun _=>[])⟩),
 (50,⟨1,false,24,(.sl 126),[.nil],false,(List Dc),(bf 2 dZ)⟩),
 (52,⟨1,false,24,(.sl 100),[.nil],false,(List Rf),(bf 2 bd)⟩),
 (55,⟨4,true,96,(.arr 4 50),[.nil,.nil,.nil,.nil],false,Unit,(fun _=>[])⟩),
 (56,⟨4,true,32,(.arr 4 3),[.int .i64 0,.int .i64 0,.int .i64 0,.int .i64 0],false,Unit,(fun _=>[])⟩),
 (57,⟨1,false,24,(.sl 3),[.nil],false,(List Int),(bf 1 encI)⟩),
 (58,⟨4,true,96,(.arr 4 57),[.nil,.nil,.nil,.nil],false,Unit,(fun _=>[])⟩),
 (61,⟨1,false,8,.ptr,[.raw (.pointer none)],false,Unit,(fun _=>[])⟩),
 (62,⟨1,false,8,.ptr,[.raw (.pointer none)],false,Unit,(fun _=>[])⟩),
 (63,⟨1,false,8,.ptr,[.raw (.pointer none)],false,Unit,(fun _=>[])⟩),
 (65,⟨2,true,16,(.struct [(62,0),(63,1)]),[.raw (.pointer none),.raw (.pointer none)],false,Unit,(fun _=>[])⟩),
 (66,⟨8,true,64,(.arr 4 65),[.raw (.pointer none),.raw (.pointer none),.raw (.pointer none),.raw (.pointer none),.raw (.pointer none),.raw (.pointer none),.raw (.pointer none),.raw (.pointer none)],false,Unit,(fun _=>[])⟩),
 (68,⟨9,true,72,(.struct [(61,0),(66,1)]),[.raw (.pointer none),.raw (.pointer none),.raw (.pointer none),.raw (.pointer none),.raw (.pointer none),.raw (.pointer none),.raw (.pointer none),.raw (.pointer none),.raw (.pointer none)],false,Unit,(fun _=>[])⟩),
 (71,⟨1,false,8,.ptr,[.raw (.pointer none)],false,Unit,(fun _=>[])⟩),
 (75,⟨1,false,24,(.sl 163),[.nil],false,(List Ch),(bf 9 jP)⟩),
 (78,⟨1,false,8,.ptr,[.raw (.pointer none)],false,Unit,(fun _=>[])⟩),
 (79,⟨1,false,8,.ptr,[.raw (.pointer none)],false,Unit,(fun _=>[])⟩),
 (80,⟨1,false,8,.ptr,[.raw (.pointer none)],false,Unit,(fun _=>[])⟩),
 (81,⟨4,true,32,(.arr 4 80),[.raw (.pointer none),.raw (.pointer none),.raw (.pointer none),.raw (.pointer none)],false,Unit,(fun _=>[])⟩),
 (82,⟨4,true,32,(.arr 4 78),[.raw (.pointer none),.raw (.pointer none),.raw (.pointer none),.raw (.pointer none)],false,Unit,(fun _=>[])⟩),
 (84,⟨9,true,72,(.struct [(79,0),(81,1),(82,5)]),[.raw (.pointer none),.raw (.pointer none),.raw (.pointer none),.raw (.pointer none),.raw (.pointer none),.raw (.pointer none),.raw (.pointer none),.raw (.pointer none),.raw (.pointer none)],false,Unit,(fun _=>[])⟩),
 (87,⟨1,false,24,(.sl 89),[.nil],false,(List (List Fi)),(bf 1 (bf 4 ao))⟩),
 (88,⟨4,true,96,(.arr 4 87),[.nil,.nil,.nil,.nil],false,Unit,(fun _=>[])⟩),
 (89,⟨1,false,24,(.sl 161),[.nil],false,(List Fi),(bf 4 ao)⟩),
 (94,⟨1,false,8,.ptr,[.raw (.pointer none)],false,Unit,(fun _=>[])⟩),
 (95,⟨1,false,24,(.sl 4),[.nil],false,(List Bool),(bf 1 af)⟩),
 (96,⟨4,true,96,(.arr 4 95),[.nil,.nil,.nil,.nil],false,Unit,(fun _=>[])⟩),
 (98,⟨9,true,200,(.struct [(94,0),(96,1),(58,5)]),[.raw (.pointer none),.nil,.nil,.nil,.nil,.nil,.nil,.nil,.nil],false,Unit,(fun _=>[])⟩),
 (100,⟨2,true,24,(.struct [(9,0),(3,1)]),[.str [],.int .i64 0],false,Rf,bd⟩),
 (104,⟨1,false,24,(.sl 22),[.nil],false,(List (List (List UInt8))),(bf 1 (bf 1 encS))⟩),
 (107,⟨1,false,8,.ptr,[.raw (.pointer none)],false,Unit,(fun _=>[])⟩),
 (109,⟨2,true,32,(.struct [(107,0),(33,1)]),[.raw (.pointer none),.nil],false,Unit,(fun _=>[])⟩),
 (111,⟨3,true,40,(.struct [(109,0),(41,2)]),[.raw (.pointer none),.nil,.raw (.pointer none)],false,Unit,(fun _=>[])⟩),
 (126,⟨2,true,40,(.struct [(9,0),(33,1)]),[.str [],.nil],false,Dc,dZ⟩),
 (132,⟨1,false,8,.ptr,[.raw (.pointer none)],false,Unit,(fun _=>[])⟩),
 (133,⟨1,false,24,(.sl 158),[.nil],false,(List Ob),(bf 6 an)⟩),
 (135,⟨1,true,24,(.struct [(133,0)]),[.nil],false,Unit,(fun _=>[])⟩),
 (137,⟨9,true,200,(.struct [(132,0),(58,1),(58,5)]),[.raw (.pointer none),.nil,.nil,.nil,.nil,.nil,.nil,.nil,.nil],false,Unit,(fun _=>[])⟩),
 (138,⟨1,false,24,(.sl 220),[.nil],false,(List Mv),(bf 3 cC)⟩),
 (140,⟨1,true,24,(.struct [(138,0)]),[.nil],false,Unit,(fun _=>[])⟩),
 (141,⟨1,false,24,(.sl 211),[.nil],false,(List It),(bf 5 aJ)⟩),
 (143,⟨3,true,40,(.struct [(132,0),(141,1),(3,2)]),[.raw (.pointer none),.nil,.int .i64 0],false,Unit,(fun _=>[])⟩),
 (151,⟨1,false,24,(.sl 153),[.nil],false,(List Rf),(bf 2 bd)⟩),
 (153,⟨2,true,24,(.struct [(9,0),(3,1)]),[.str [],.int .i64 0],false,Rf,bd⟩),
 (156,⟨1,false,24,(.sl 237),[.nil],false,(List aD),(bf 4 cB)⟩),
 (158,⟨6,true,104,(.struct [(3,0),(33,1),(156,2),(3,3),(57,4),(9,5)]),[.int .i64 0,.nil,.nil,.int .i64 0,.nil,.str []],false,Ob,an⟩),
 (161,⟨4,true,40,(.struct [(9,0),(3,1),(3,2),(3,3)]),[.str [],.int .i64 0,.int .i64 0,.int .i64 0],true,Fi,ao⟩),
 (163,⟨9,true,96,(.struct [(9,0),(161,1),(161,5)]),[.str [],.str [],.int .i64 0,.int .i64 0,.int .i64 0,.str [],.int .i64 0,.int .i64 0,.int .i64 0],true,Ch,jP⟩),
 (169,⟨1,true,24,(.struct [(133,0)]),[.nil],false,Unit,(fun _=>[])⟩),
 (172,⟨2,true,24,(.struct [(9,0),(71,1)]),[.str [],.raw (.pointer none)],false,Unit,(fun _=>[])⟩),
 (183,⟨1,false,8,.ptr,[.raw (.pointer none)],false,Unit,(fun _=>[])⟩),
 (184,⟨1,false,24,(.sl 262),[.nil],false,(List Mv),(bf 3 cC)⟩),
 (186,⟨2,true,48,(.struct [(52,0),(184,1)]),[.nil,.nil],false,Unit,(fun _=>[])⟩),
 (187,⟨1,false,24,(.sl 193),[.nil],false,(List It),(bf 5 aJ)⟩),
 (189,⟨3,true,40,(.struct [(94,0),(187,1),(3,2)]),[.raw (.pointer none),.nil,.int .i64 0],false,Unit,(fun _=>[])⟩),
 (193,⟨5,true,64,(.struct [(9,0),(33,1),(4,2),(3,3),(3,4)]),[.str [],.ls 1 UInt8 bt [],.bool false,.int .i64 0,.int .i64 0],false,It,aJ⟩),
 (211,⟨5,true,64,(.struct [(9,0),(33,1),(4,2),(3,3),(3,4)]),[.str [],.ls 1 UInt8 bt [],.bool false,.int .i64 0,.int .i64 0],false,It,aJ⟩),
 (220,⟨3,true,32,(.struct [(9,0),(3,1),(3,2)]),[.str [],.int .i64 0,.int .i64 0],false,Mv,cC⟩),
 (223,⟨1,false,24,(.sl 57),[.nil],false,(List (List Int)),(bf 1 (bf 1 encI))⟩),
 (237,⟨4,true,40,(.struct [(9,0),(3,1),(3,2),(3,3)]),[.str [],.int .i64 0,.int .i64 0,.int .i64 0],true,aD,cB⟩),
 (241,⟨1,false,16,.jU,[.raw .nilIface],false,Unit,(fun _=>[])⟩),
 (256,⟨3,true,72,(.arr 3 89),[.nil,.nil,.nil],false,(Int×Int×Int),tH⟩),
 (262,⟨3,true,32,(.struct [(9,0),(3,1),(3,2)]),[.str [],.int .i64 0,.int .i64 0],false,Mv,cC⟩),
 (266,⟨3,true,48,(.struct [(94,0),(9,1),(223,2)]),[.raw (.pointer none),.str [],.nil],false,Unit,(fun _=>[])⟩),
 (268,⟨1,false,24,(.sl 270),[.nil],false,(List (Int×Int)),(bf 2 jg)⟩),
 (270,⟨2,true,16,(.arr 2 3),[.int .i64 0,.int .i64 0],false,(Int×Int),jg⟩),
 (272,⟨1,false,8,(.int .i64),[.int .i64 0],false,Int,encI⟩),
 (279,⟨1,false,4,(.int .u32),[.int .u32 0],false,Unit,(fun _=>[])⟩),
 (281,⟨1,false,8,(.int .u64),[.int .u64 0],false,Unit,(fun _=>[])⟩),
 (286,⟨1,false,24,(.sl 33),[.nil],false,(List (List UInt8)),(bf 1 (bf 1 bt))⟩),
 (307,⟨4,true,64,(.struct [(94,0),(89,1),(22,2),(3,3)]),[.raw (.pointer none),.nil,.nil,.int .i64 0],false,Unit,(fun _=>[])⟩),
 (315,⟨1,false,8,(.int .u64),[.int .u64 0],false,Unit,(fun _=>[])⟩),
 (322,⟨1,false,24,(.sl 327),[.nil],false,(List (Int×Int)),(bf 2 jg)⟩),
 (324,⟨3,true,24,(.arr 3 3),[.int .i64 0,.int .i64 0,.int .i64 0],false,(Int×Int×Int),tH⟩),
 (325,⟨1,false,24,(.sl 324),[.nil],false,(List (Int×Int×Int)),(bf 3 tH)⟩),
 (327,⟨2,true,16,(.struct [(3,0),(3,1)]),[.int .i64 0,.int .i64 0],false,(Int×Int),jg⟩),
 (334,⟨1,false,8,(.int .i64),[.int .i64 0],false,Int,encI⟩),
 (337,⟨1,false,8,.ptr,[.raw (.pointer none)],false,Unit,(fun _=>[])⟩),
 (343,⟨1,false,8,.other,[.raw (.pointer none)],false,Unit,(fun _=>[])⟩),
 (345,⟨4,true,64,(.arr 4 9),[.str [],.str [],.str [],.str []],false,Unit,(fun _=>[])⟩),
 (363,⟨3,true,48,(.struct [(9,0),(9,1),(241,2)]),[.str [],.str [],.raw .nilIface],false,Unit,(fun _=>[])⟩),
 (374,⟨1,false,8,.ptr,[.raw (.pointer none)],false,Unit,(fun _=>[])⟩),
 (376,⟨1,true,16,(.struct [(9,0)]),[.str []],false,Unit,(fun _=>[])⟩),
 (386,⟨1,false,24,(.sl 395),[.nil],false,(List (Int×Int)),(bf 2 jg)⟩),
 (395,⟨2,true,16,(.struct [(3,0),(3,1)]),[.int .i64 0,.int .i64 0],false,(Int×Int),jg⟩),
 (401,⟨2,true,2,(.struct [(5,0),(5,1)]),[.int .u8 0,.int .u8 0],false,Unit,(fun _=>[])⟩)]
def tab:Nat→Option TD:=nQ Jk
set_option maxRecDepth 20000 in
theorem tabOk : bo Tryz.prog tab := Jl ⟨aB Tryz.typeInfo2 Tryz.isAgg2 Tryz.underlying2,
 aB Tryz.typeInfo3 Tryz.isAgg3 Tryz.underlying3,
 aB Tryz.typeInfo4 Tryz.isAgg4 Tryz.underlying4,
 aB Tryz.typeInfo5 Tryz.isAgg5 Tryz.underlying5,
 aB Tryz.typeInfo9 Tryz.isAgg9 Tryz.underlying9,
 aB Tryz.typeInfo21 Tryz.isAgg21 Tryz.underlying21,
 aB Tryz.typeInfo22 Tryz.isAgg22 Tryz.underlying22,
 aB Tryz.typeInfo25 Tryz.isAgg25 Tryz.underlying25,
 aB Tryz.typeInfo29 Tryz.isAgg29 ⟨_,Tryz.underlying29,rfl,rfl⟩,
 aB Tryz.typeInfo33 Tryz.isAgg33 Tryz.underlying33,
 aB Tryz.typeInfo39 Tryz.isAgg39 Tryz.underlying39,
 aB Tryz.typeInfo41 Tryz.isAgg41 ⟨_,Tryz.underlying41⟩,
 aB Tryz.typeInfo44 Tryz.isAgg44 ⟨_,Tryz.underlying44,rfl,rfl⟩,
 aB Tryz.typeInfo46 Tryz.isAgg46 ⟨_,Tryz.underlying46,rfl,rfl⟩,
 aB Tryz.typeInfo50 Tryz.isAgg50 Tryz.underlying50,
 aB Tryz.typeInfo52 Tryz.isAgg52 Tryz.underlying52,
 aB Tryz.typeInfo55 Tryz.isAgg55 Tryz.underlying55,
 aB Tryz.typeInfo56 Tryz.isAgg56 Tryz.underlying56,
 aB Tryz.typeInfo57 Tryz.isAgg57 Tryz.underlying57,
 aB Tryz.typeInfo58 Tryz.isAgg58 Tryz.underlying58,
 aB Tryz.typeInfo61 Tryz.isAgg61 ⟨_,Tryz.underlying61⟩,
 aB Tryz.typeInfo62 Tryz.isAgg62 ⟨_,Tryz.underlying62⟩,
 aB Tryz.typeInfo63 Tryz.isAgg63 ⟨_,Tryz.underlying63⟩,
 aB Tryz.typeInfo65 Tryz.isAgg65 ⟨_,Tryz.underlying65,rfl,rfl⟩,
 aB Tryz.typeInfo66 Tryz.isAgg66 Tryz.underlying66,
 aB Tryz.typeInfo68 Tryz.isAgg68 ⟨_,Tryz.underlying68,rfl,rfl⟩,
 aB Tryz.typeInfo71 Tryz.isAgg71 ⟨_,Tryz.underlying71⟩,
 aB Tryz.typeInfo75 Tryz.isAgg75 Tryz.underlying75,
 aB Tryz.typeInfo78 Tryz.isAgg78 ⟨_,Tryz.underlying78⟩,
 aB Tryz.typeInfo79 Tryz.isAgg79 ⟨_,Tryz.underlying79⟩,
 aB Tryz.typeInfo80 Tryz.isAgg80 ⟨_,Tryz.underlying80⟩,
 aB Tryz.typeInfo81 Tryz.isAgg81 Tryz.underlying81,
 aB Tryz.typeInfo82 Tryz.isAgg82 Tryz.underlying82,
 aB Tryz.typeInfo84 Tryz.isAgg84 ⟨_,Tryz.underlying84,rfl,rfl⟩,
 aB Tryz.typeInfo87 Tryz.isAgg87 Tryz.underlying87,
 aB Tryz.typeInfo88 Tryz.isAgg88 Tryz.underlying88,
 aB Tryz.typeInfo89 Tryz.isAgg89 Tryz.underlying89,
 aB Tryz.typeInfo94 Tryz.isAgg94 ⟨_,Tryz.underlying94⟩,
 aB Tryz.typeInfo95 Tryz.isAgg95 Tryz.underlying95,
 aB Tryz.typeInfo96 Tryz.isAgg96 Tryz.underlying96,
 aB Tryz.typeInfo98 Tryz.isAgg98 ⟨_,Tryz.underlying98,rfl,rfl⟩,
 aB Tryz.typeInfo100 Tryz.isAgg100 ⟨_,Tryz.underlying100,rfl,rfl⟩,
 aB Tryz.typeInfo104 Tryz.isAgg104 Tryz.underlying104,
 aB Tryz.typeInfo107 Tryz.isAgg107 ⟨_,Tryz.underlying107⟩,
 aB Tryz.typeInfo109 Tryz.isAgg109 ⟨_,Tryz.underlying109,rfl,rfl⟩,
 aB Tryz.typeInfo111 Tryz.isAgg111 ⟨_,Tryz.underlying111,rfl,rfl⟩,
 aB Tryz.typeInfo126 Tryz.isAgg126 ⟨_,Tryz.underlying126,rfl,rfl⟩,
 aB Tryz.typeInfo132 Tryz.isAgg132 ⟨_,Tryz.underlying132⟩,
 aB Tryz.typeInfo133 Tryz.isAgg133 Tryz.underlying133,
 aB Tryz.typeInfo135 Tryz.isAgg135 ⟨_,Tryz.underlying135,rfl,rfl⟩,
 aB Tryz.typeInfo137 Tryz.isAgg137 ⟨_,Tryz.underlying137,rfl,rfl⟩,
 aB Tryz.typeInfo138 Tryz.isAgg138 Tryz.underlying138,
 aB Tryz.typeInfo140 Tryz.isAgg140 ⟨_,Tryz.underlying140,rfl,rfl⟩,
 aB Tryz.typeInfo141 Tryz.isAgg141 Tryz.underlying141,
 aB Tryz.typeInfo143 Tryz.isAgg143 ⟨_,Tryz.underlying143,rfl,rfl⟩,
 aB Tryz.typeInfo151 Tryz.isAgg151 Tryz.underlying151,
 aB Tryz.typeInfo153 Tryz.isAgg153 ⟨_,Tryz.underlying153,rfl,rfl⟩,
 aB Tryz.typeInfo156 Tryz.isAgg156 Tryz.underlying156,
 aB Tryz.typeInfo158 Tryz.isAgg158 ⟨_,Tryz.underlying158,rfl,rfl⟩,
 aB Tryz.typeInfo161 Tryz.isAgg161 ⟨_,Tryz.underlying161,rfl,rfl⟩ (fun _=>⟨by kernel_rfl,by exact(cM.struct (by kernel_rfl) (by kernel_rfl) (by rw[oP Tryz.underlying161];exact⟨false,[.str []],_,rfl,by decide,rfl,Tryz.isAgg9,eV Tryz.typeInfo9 rfl,by decide,(cM.str Tryz.underlying9),⟨false,[.int .i64 0],_,rfl,by decide,rfl,Tryz.isAgg3,eV Tryz.typeInfo3 rfl,by decide,(cM.int Tryz.underlying3),⟨false,[.int .i64 0],_,rfl,by decide,rfl,Tryz.isAgg3,eV Tryz.typeInfo3 rfl,by decide,(cM.int Tryz.underlying3),⟨false,[.int .i64 0],_,rfl,by decide,rfl,Tryz.isAgg3,eV Tryz.typeInfo3 rfl,by decide,(cM.int Tryz.underlying3),rfl⟩⟩⟩⟩))⟩),
 aB Tryz.typeInfo163 Tryz.isAgg163 ⟨_,Tryz.underlying163,rfl,rfl⟩ (fun _=>⟨by kernel_rfl,by exact(cM.struct (by kernel_rfl) (by kernel_rfl) (by rw[oP Tryz.underlying163];exact⟨false,[.str []],_,rfl,by decide,rfl,Tryz.isAgg9,eV Tryz.typeInfo9 rfl,by decide,(cM.str Tryz.underlying9),⟨true,[.str [],.int .i64 0,.int .i64 0,.int .i64 0],_,rfl,by decide,rfl,Tryz.isAgg161,eV Tryz.typeInfo161 rfl,by decide,(cM.struct (by kernel_rfl) (by kernel_rfl) (by rw[oP Tryz.underlying161];exact⟨false,[.str []],_,rfl,by decide,rfl,Tryz.isAgg9,eV Tryz.typeInfo9 rfl,by decide,(cM.str Tryz.underlying9),⟨false,[.int .i64 0],_,rfl,by decide,rfl,Tryz.isAgg3,eV Tryz.typeInfo3 rfl,by decide,(cM.int Tryz.underlying3),⟨false,[.int .i64 0],_,rfl,by decide,rfl,Tryz.isAgg3,eV Tryz.typeInfo3 rfl,by decide,(cM.int Tryz.underlying3),⟨false,[.int .i64 0],_,rfl,by decide,rfl,Tryz.isAgg3,eV Tryz.typeInfo3 rfl,by decide,(cM.int Tryz.underlying3),rfl⟩⟩⟩⟩)),⟨true,[.str [],.int .i64 0,.int .i64 0,.int .i64 0],_,rfl,by decide,rfl,Tryz.isAgg161,eV Tryz.typeInfo161 rfl,by decide,(cM.struct (by kernel_rfl) (by kernel_rfl) (by rw[oP Tryz.underlying161];exact⟨false,[.str []],_,rfl,by decide,rfl,Tryz.isAgg9,eV Tryz.typeInfo9 rfl,by decide,(cM.str Tryz.underlying9),⟨false,[.int .i64 0],_,rfl,by decide,rfl,Tryz.isAgg3,eV Tryz.typeInfo3 rfl,by decide,(cM.int Tryz.underlying3),⟨false,[.int .i64 0],_,rfl,by decide,rfl,Tryz.isAgg3,eV Tryz.typeInfo3 rfl,by decide,(cM.int Tryz.underlying3),⟨false,[.int .i64 0],_,rfl,by decide,rfl,Tryz.isAgg3,eV Tryz.typeInfo3 rfl,by decide,(cM.int Tryz.underlying3),rfl⟩⟩⟩⟩)),rfl⟩⟩⟩))⟩),
 aB Tryz.typeInfo169 Tryz.isAgg169 ⟨_,Tryz.underlying169,rfl,rfl⟩,
 aB Tryz.typeInfo172 Tryz.isAgg172 ⟨_,Tryz.underlying172,rfl,rfl⟩,
 aB Tryz.typeInfo183 Tryz.isAgg183 ⟨_,Tryz.underlying183⟩,
 aB Tryz.typeInfo184 Tryz.isAgg184 Tryz.underlying184,
 aB Tryz.typeInfo186 Tryz.isAgg186 ⟨_,Tryz.underlying186,rfl,rfl⟩,
 aB Tryz.typeInfo187 Tryz.isAgg187 Tryz.underlying187,
 aB Tryz.typeInfo189 Tryz.isAgg189 ⟨_,Tryz.underlying189,rfl,rfl⟩,
 aB Tryz.typeInfo193 Tryz.isAgg193 ⟨_,Tryz.underlying193,rfl,rfl⟩,
 aB Tryz.typeInfo211 Tryz.isAgg211 ⟨_,Tryz.underlying211,rfl,rfl⟩,
 aB Tryz.typeInfo220 Tryz.isAgg220 ⟨_,Tryz.underlying220,rfl,rfl⟩,
 aB Tryz.typeInfo223 Tryz.isAgg223 Tryz.underlying223,
 aB Tryz.typeInfo237 Tryz.isAgg237 ⟨_,Tryz.underlying237,rfl,rfl⟩ (fun _=>⟨by kernel_rfl,by exact(cM.struct (by kernel_rfl) (by kernel_rfl) (by rw[oP Tryz.underlying237];exact⟨false,[.str []],_,rfl,by decide,rfl,Tryz.isAgg9,eV Tryz.typeInfo9 rfl,by decide,(cM.str Tryz.underlying9),⟨false,[.int .i64 0],_,rfl,by decide,rfl,Tryz.isAgg3,eV Tryz.typeInfo3 rfl,by decide,(cM.int Tryz.underlying3),⟨false,[.int .i64 0],_,rfl,by decide,rfl,Tryz.isAgg3,eV Tryz.typeInfo3 rfl,by decide,(cM.int Tryz.underlying3),⟨false,[.int .i64 0],_,rfl,by decide,rfl,Tryz.isAgg3,eV Tryz.typeInfo3 rfl,by decide,(cM.int Tryz.underlying3),rfl⟩⟩⟩⟩))⟩),
 aB Tryz.typeInfo241 Tryz.isAgg241 ⟨_,Tryz.underlying241⟩,
 aB Tryz.typeInfo256 Tryz.isAgg256 Tryz.underlying256,
 aB Tryz.typeInfo262 Tryz.isAgg262 ⟨_,Tryz.underlying262,rfl,rfl⟩,
 aB Tryz.typeInfo266 Tryz.isAgg266 ⟨_,Tryz.underlying266,rfl,rfl⟩,
 aB Tryz.typeInfo268 Tryz.isAgg268 Tryz.underlying268,
 aB Tryz.typeInfo270 Tryz.isAgg270 Tryz.underlying270,
 aB Tryz.typeInfo272 Tryz.isAgg272 Tryz.underlying272,
 aB Tryz.typeInfo279 Tryz.isAgg279 Tryz.underlying279,
 aB Tryz.typeInfo281 Tryz.isAgg281 Tryz.underlying281,
 aB Tryz.typeInfo286 Tryz.isAgg286 Tryz.underlying286,
 aB Tryz.typeInfo307 Tryz.isAgg307 ⟨_,Tryz.underlying307,rfl,rfl⟩,
 aB Tryz.typeInfo315 Tryz.isAgg315 Tryz.underlying315,
 aB Tryz.typeInfo322 Tryz.isAgg322 Tryz.underlying322,
 aB Tryz.typeInfo324 Tryz.isAgg324 Tryz.underlying324,
 aB Tryz.typeInfo325 Tryz.isAgg325 Tryz.underlying325,
 aB Tryz.typeInfo327 Tryz.isAgg327 ⟨_,Tryz.underlying327,rfl,rfl⟩,
 aB Tryz.typeInfo334 Tryz.isAgg334 Tryz.underlying334,
 aB Tryz.typeInfo337 Tryz.isAgg337 ⟨_,Tryz.underlying337⟩,
 aB Tryz.typeInfo343 Tryz.isAgg343 trivial,
 aB Tryz.typeInfo345 Tryz.isAgg345 Tryz.underlying345,
 aB Tryz.typeInfo363 Tryz.isAgg363 ⟨_,Tryz.underlying363,rfl,rfl⟩,
 aB Tryz.typeInfo374 Tryz.isAgg374 ⟨_,Tryz.underlying374⟩,
 aB Tryz.typeInfo376 Tryz.isAgg376 ⟨_,Tryz.underlying376,rfl,rfl⟩,
 aB Tryz.typeInfo386 Tryz.isAgg386 Tryz.underlying386,
 aB Tryz.typeInfo395 Tryz.isAgg395 ⟨_,Tryz.underlying395,rfl,rfl⟩,
 aB Tryz.typeInfo401 Tryz.isAgg401 ⟨_,Tryz.underlying401,rfl,rfl⟩,
 trivial⟩
end Go.Proofs.YtpechfcbnoggfaaGreatDoor
end
section
namespace Go.Nest
open Go Go.AM Go.Proofs
open Go.Proofs.YtpechfcbnoggfaaGreatDoor (tab tabOk)
set_option maxRecDepth 4000
def ft(c:UInt8):Bool:=decide (c.toNat≤32)||decide (c.toNat=47)||decide (127≤c.toNat)
def bJ(l:List UInt8):Int:=if l=[]∨l=[46]∨l=[46,46]∨l.any ft then 2 else if 20<l.length then 4 else 0
def shown(c:UInt8):Bool:=decide (32≤c.toNat)&&decide (c.toNat<127)
theorem gA{α:Type}{p:α→Bool}{l:List α}{i:Nat}(h:i<l.length)(h1:(l.take i).any p=false)(h2:p l[i]=false):(l.take (i+1)).any p=false:=by
 rw[List.take_succ_eq_append_getElem h,List.any_append,h1];simp[h2]
theorem oA{α:Type}{p:α→Bool}{l:List α}{i:Nat}(h:i<l.length)(h2:p l[i]=true):l.any p=true:=
 List.any_eq_true.2 ⟨_,List.getElem_mem h,h2⟩
theorem ry(l:List UInt8):ae Tryz.prog 214 [.c (.str l)] [] (Rt (.c (.int .i64 (bJ l))) []):=by
 refine ak (n:=39) (n0:=0) tabOk Tryz.call214 Tryz.func214 ?_;intro hb;have hb:l.length≤9223372036854775807:=hb.1.1
 have b:∀{i:Nat} (h:i<l.length),ft l[i]=true→(2:Int)=bJ l:=fun h d=>by
  unfold bJ;rw[if_pos (.inr (.inr (.inr (oA h d))))]
 (conv=>whnf);refine dec (fun(h:l=[])=>?_) (fun(h:¬l=[])=>?_)
 ·(conv=>whnf);refine dj ?_ rfl;simp[bJ,h]
 (conv=>whnf);refine dec (fun(d:l=[46])=>?_) (fun(d:¬l=[46])=>?_)
 ·(conv=>whnf);refine dj ?_ rfl;simp[bJ,d]
 (conv=>whnf);refine dec (fun(e:l=[46,46])=>?_) (fun(e:¬l=[46,46])=>?_)
 ·(conv=>whnf);refine dj ?_ rfl;simp[bJ,e]
 (conv=>whnf);refine lp Nat (fun i=>⟨[(0,.c (.str l)),(15,.c (.int .i64 l.length)),(16,.c (.int .i64 i))],[]⟩) (fun i=>i≤l.length∧(l.take i).any ft=false) (fun i=>l.length-i) 0 [] [] ?_ ?_ (fun i j=>?_)
 ·simp
 ·repeat' first|exact trivial|exact rfl|refine And.intro ?_ ?_
 (conv=>whnf);refine dec (fun k=>?_) (fun k=>?_)
 ·have a:i<l.length:=by omega
  (conv=>whnf);refine⟨i,l[i],rfl,List.getElem?_eq_getElem a,?_⟩;(conv=>whnf);refine dec (fun f=>?_) (fun f=>?_)
  ·(conv=>whnf);refine dj ?_ rfl;rw[←b a (by simp[ft];omega)]
  (conv=>whnf);refine⟨i,l[i],rfl,List.getElem?_eq_getElem a,?_⟩;(conv=>whnf);refine dec (fun m=>?_) (fun m=>?_)
  ·(conv=>whnf);refine dj ?_ rfl;rw[←b a (by simp[ft];omega)]
  (conv=>whnf);refine⟨i,l[i],rfl,List.getElem?_eq_getElem a,?_⟩;(conv=>whnf);refine dec (fun o=>?_) (fun o=>?_)
  ·(conv=>whnf);refine dj ?_ rfl;rw[←b a (by simp[ft];omega)]
  (conv=>whnf);refine⟨i64 (by omega) (by omega),?_⟩;(conv=>whnf);refine ag (i+1) [] [] ⟨a,gA a j.2 (by simp[ft];omega)⟩ (by simp only[];omega) ?_;repeat' first|exact trivial|exact rfl|refine And.intro ?_ ?_
 ·obtain rfl:i=l.length:=by omega
  have g:l.any ft=false:=by simpa using j.2
  (conv=>whnf);refine dec (fun f=>?_) (fun f=>?_)
  ·(conv=>whnf);refine dj ?_ rfl;unfold bJ;rw[if_neg (by simp[h,d,e,g]),if_pos (by omega)]
  ·(conv=>whnf);refine dj ?_ rfl;unfold bJ;rw[if_neg (by simp[h,d,e,g]),if_neg (by omega)]
end Go.Nest
end
section
namespace Go.Nest
open Go Go.AM Go.Proofs
open Go.Proofs.YtpechfcbnoggfaaGreatDoor (tab tabOk)
set_option maxRecDepth 4000
theorem Kl(l:List UInt8):ae Tryz.prog 235 [.c (.str l)] [] (Rt (.c (.int .i64 (bJ l))) []):=by
 refine ak (n:=39) (n0:=0) tabOk Tryz.call235 Tryz.func235 ?_;intro hb;have hb:l.length≤9223372036854775807:=hb.1.1
 have b:∀{i:Nat} (h:i<l.length),ft l[i]=true→(2:Int)=bJ l:=fun h d=>by
  unfold bJ;rw[if_pos (.inr (.inr (.inr (oA h d))))]
 (conv=>whnf);refine dec (fun(e:l=[])=>?_) (fun(e:¬l=[])=>?_)
 ·(conv=>whnf);refine dj ?_ rfl;simp[bJ,e]
 (conv=>whnf);refine dec (fun(d:l=[46])=>?_) (fun(d:¬l=[46])=>?_)
 ·(conv=>whnf);refine dj ?_ rfl;simp[bJ,d]
 (conv=>whnf);refine dec (fun(f:l=[46,46])=>?_) (fun(f:¬l=[46,46])=>?_)
 ·(conv=>whnf);refine dj ?_ rfl;simp[bJ,f]
 (conv=>whnf);refine lp Nat (fun i=>⟨[(0,.c (.str l)),(3,.c (.int .i64 i))],[]⟩) (fun i=>i≤l.length∧(l.take i).any ft=false) (fun i=>l.length-i) 0 [] [] ?_ ?_ (fun i j=>?_)
 ·simp
 ·repeat' first|exact trivial|exact rfl|refine And.intro ?_ ?_
 (conv=>whnf);refine dec (fun k=>?_) (fun k=>?_)
 ·have a:i<l.length:=by omega
  repeat'((conv=>whnf);first|(refine dec (fun h=>?_) (fun h=>?_)<;>try contradiction)|refine⟨i64 (by omega) (by omega),?_⟩|refine⟨_,_,rfl,List.getElem?_eq_getElem (by omega),?_⟩|refine aG ?_|fail)
  ·rw[←b a (by simp[ft];omega)]
  ·rw[←b a (by simp[ft];omega)]
  ·rw[←b a (by simp[ft];omega)]
  ·refine ag (i+1) [] [] ⟨a,gA a j.2 (by simp[ft];omega)⟩ (by simp only[];omega) ?_;repeat' first|exact trivial|exact rfl|refine And.intro ?_ ?_
 ·obtain rfl:i=l.length:=by omega
  have g:l.any ft=false:=by simpa using j.2
  repeat'((conv=>whnf);first|(refine dec (fun h=>?_) (fun h=>?_)<;>try contradiction)|refine aG ?_|fail)
  ·unfold bJ;rw[if_neg (by simp[e,d,f,g]),if_pos (by omega)]
  ·unfold bJ;rw[if_neg (by simp[e,d,f,g]),if_neg (by omega)]
theorem vX(l:List UInt8):ae Tryz.prog 317 [.c (.str l)] [] (Rt (.c (.bool (l.all shown))) []):=by
 refine ak (n:=20) (n0:=0) tabOk Tryz.call317 Tryz.func317 ?_;intro hb;have hb:l.length≤9223372036854775807:=hb.1.1;(conv=>whnf);refine lp Nat (fun i=>⟨[(0,.c (.str l)),(5,.c (.int .i64 l.length)),(6,.c (.int .i64 i))],[]⟩) (fun i=>i≤l.length∧(l.take i).all shown=true) (fun i=>l.length-i) 0 [] [] ?_ ?_ (fun i e=>?_)
 ·simp
 ·repeat' first|exact trivial|exact rfl|refine And.intro ?_ ?_
 have b:∀(h:i<l.length),shown l[i]=false→false=l.all shown:=fun h d=>by
  symm;rw[Bool.eq_false_iff,Ne,List.all_eq_true];intro f;rw[f _ (List.getElem_mem h)]at d;cases d
 (conv=>whnf);refine dec (fun g=>?_) (fun g=>?_)
 ·have a:i<l.length:=by omega
  repeat'((conv=>whnf);first|(refine dec (fun h=>?_) (fun h=>?_)<;>try contradiction)|refine⟨i64 (by omega) (by omega),?_⟩|refine⟨_,_,rfl,List.getElem?_eq_getElem (by omega),?_⟩|refine aE ?_|fail)
  ·rw[←b a (by simp[shown];omega)]
  ·rw[←b a (by simp[shown];omega)]
  ·refine ag (i+1) [] [] ⟨a,?_⟩ (by simp only[];omega) ?_
   ·rw[List.take_succ_eq_append_getElem a,List.all_append,e.2];simp[shown];omega
   repeat' first|exact trivial|exact rfl|refine And.intro ?_ ?_
 ·obtain rfl:i=l.length:=by omega
  have j:l.all shown=true:=by simpa using e.2
  repeat'((conv=>whnf);first|refine aE ?_|fail)
  rw[j]
end Go.Nest
end
section
namespace Go.Nest
open Go Go.AM Go.Proofs
theorem pj{α:Type}[DecidableEq α]{l m:List α}{i:Nat}(h:i<l.length)(a:i<m.length)(hne:¬l[i]=m[i]):false=decide (l=m):=by
 symm;rw[decide_eq_false_iff_not];intro e;subst e;exact hne rfl
theorem od{α:Type}{l m:List α}{i:Nat}(h:i<l.length)(a:i<m.length)(b:l.take i=m.take i)(he:l[i]=m[i]):l.take (i+1)=m.take (i+1):=by
 rw[List.take_succ_eq_append_getElem h,List.take_succ_eq_append_getElem a,b,he]
theorem pR{α:Type}[DecidableEq α]{l m:List α}{i:Nat}(h:l.length≤i)(hl:l.length=m.length)(a:l.take i=m.take i):true=decide (l=m):=by
 symm;rw[decide_eq_true_iff];rwa[List.take_of_length_le h,List.take_of_length_le (hl▸h)]at a
theorem pn{α:Type}[DecidableEq α]{l m:List α}(h:¬(l.length:Int)=m.length):false=decide (l=m):=by
 symm;rw[decide_eq_false_iff_not];intro e;subst e;exact h rfl
theorem xb{a b:UInt8}:(a.toNat:Int)=b.toNat↔a=b:=by rw[Int.natCast_inj];exact UInt8.toNat_inj
theorem xY{a b:aD}:ew (cB a) (cB b)↔a=b:=by
 cases a;cases b;simp[cB,ew,lZ]
end Go.Nest
end
section
namespace Go.Nest
open Go Go.AM Go.Proofs
open Go.Proofs.YtpechfcbnoggfaaGreatDoor (tab tabOk)
set_option maxRecDepth 4000
theorem Io(a b:List Int):ae Tryz.prog 30 [.c (.bs 1 Int encI a),.c (.bs 1 Int encI b)] [] (Rt (.c (.bool (decide (a=b)))) []):=by
 refine ak (n:=26) (n0:=0) tabOk Tryz.call30 Tryz.func30 ?_;intro hb;have hb:a.length≤9223372036854775807:=hb.1.1;repeat'((conv=>whnf);first|(refine aw (fun h=>?_) (fun h=>?_)<;>try contradiction)|refine aE ?_|fail)
 ·exact pn h
 (conv=>whnf);have k:a.length=b.length:=by omega
 refine lp Nat (fun i=>⟨[(0,.c (.bs 1 Int encI a)),(1,.c (.bs 1 Int encI b)),(5,.c (.int .i64 i))],[]⟩) (fun i=>i≤a.length∧a.take i=b.take i) (fun i=>a.length-i) 0 [] [] ?_ ?_ (fun i g=>?_)
 ·simp
 ·repeat' first|exact trivial|exact rfl|refine And.intro ?_ ?_
 (conv=>whnf);refine dec (fun j=>?_) (fun j=>?_)
 ·have f:i<a.length:=by omega
  have d:i<b.length:=by omega
  (conv=>whnf);refine⟨false,.grow,(.l [0,1,2,3,4,5,6,7,8]),by kernel_rfl,.inl ?_⟩;repeat'((conv=>whnf);first|(refine aw (fun h=>?_) (fun h=>?_)<;>try contradiction)|refine⟨i64 (by omega) (by omega),?_⟩|refine⟨_,_,rfl,List.getElem?_eq_getElem (by omega),?_⟩|refine aE ?_|fail)
  ·exact pj f d (fun e=>h ((Iff.rfl).2 e))
  ·refine ag (i+1) [] [] ⟨f,od f d g.2 ((Iff.rfl).1 h)⟩ (by simp only[];omega) ?_;repeat' first|exact trivial|exact rfl|refine And.intro ?_ ?_
 ·repeat'((conv=>whnf);first|refine aE ?_|fail)
  exact pR (by omega) k g.2
theorem D8(a b:List Int):ae Tryz.prog 321 [.c (.bs 1 Int encI a),.c (.bs 1 Int encI b)] [] (Rt (.c (.bool (decide (a=b)))) []):=by
 refine ak (n:=26) (n0:=0) tabOk Tryz.call321 Tryz.func321 ?_;intro hb;have hb:a.length≤9223372036854775807:=hb.1.1;repeat'((conv=>whnf);first|(refine aw (fun h=>?_) (fun h=>?_)<;>try contradiction)|refine aE ?_|fail)
 ·exact pn h
 (conv=>whnf);have k:a.length=b.length:=by omega
 refine lp Nat (fun i=>⟨[(0,.c (.bs 1 Int encI a)),(1,.c (.bs 1 Int encI b)),(12,.c (.int .i64 a.length)),(13,.c (.int .i64 i))],[]⟩) (fun i=>i≤a.length∧a.take i=b.take i) (fun i=>a.length-i) 0 [] [] ?_ ?_ (fun i g=>?_)
 ·simp
 ·repeat' first|exact trivial|exact rfl|refine And.intro ?_ ?_
 (conv=>whnf);refine dec (fun j=>?_) (fun j=>?_)
 ·have f:i<a.length:=by omega
  have d:i<b.length:=by omega
  (conv=>whnf);refine⟨false,.grow,(.l [0,1,2,3,4,5,6,7,8]),by kernel_rfl,.inl ?_⟩;repeat'((conv=>whnf);first|(refine aw (fun h=>?_) (fun h=>?_)<;>try contradiction)|refine⟨i64 (by omega) (by omega),?_⟩|refine⟨_,_,rfl,List.getElem?_eq_getElem (by omega),?_⟩|refine aE ?_|fail)
  ·exact pj f d (fun e=>h ((Iff.rfl).2 e))
  ·refine ag (i+1) [] [] ⟨f,od f d g.2 ((Iff.rfl).1 h)⟩ (by simp only[];omega) ?_;repeat' first|exact trivial|exact rfl|refine And.intro ?_ ?_
 ·repeat'((conv=>whnf);first|refine aE ?_|fail)
  exact pR (by omega) k g.2
theorem D4(a b:List UInt8):ae Tryz.prog 319 [.c (.bs 1 UInt8 bt a),.c (.bs 1 UInt8 bt b)] [] (Rt (.c (.bool (decide (a=b)))) []):=by
 refine ak (n:=26) (n0:=0) tabOk Tryz.call319 Tryz.func319 ?_;intro hb;have hb:a.length≤9223372036854775807:=hb.1.1;repeat'((conv=>whnf);first|(refine aw (fun h=>?_) (fun h=>?_)<;>try contradiction)|refine aE ?_|fail)
 ·exact pn h
 (conv=>whnf);have k:a.length=b.length:=by omega
 refine lp Nat (fun i=>⟨[(0,.c (.bs 1 UInt8 bt a)),(1,.c (.bs 1 UInt8 bt b)),(12,.c (.int .i64 a.length)),(13,.c (.int .i64 i))],[]⟩) (fun i=>i≤a.length∧a.take i=b.take i) (fun i=>a.length-i) 0 [] [] ?_ ?_ (fun i g=>?_)
 ·simp
 ·repeat' first|exact trivial|exact rfl|refine And.intro ?_ ?_
 (conv=>whnf);refine dec (fun j=>?_) (fun j=>?_)
 ·have f:i<a.length:=by omega
  have d:i<b.length:=by omega
  (conv=>whnf);refine⟨false,.grow,(.l [0,1,2,3,4,5,6,7,8]),by kernel_rfl,.inl ?_⟩;repeat'((conv=>whnf);first|(refine aw (fun h=>?_) (fun h=>?_)<;>try contradiction)|refine⟨i64 (by omega) (by omega),?_⟩|refine⟨_,_,rfl,List.getElem?_eq_getElem (by omega),?_⟩|refine aE ?_|fail)
  ·exact pj f d (fun e=>h ((xb).2 e))
  ·refine ag (i+1) [] [] ⟨f,od f d g.2 ((xb).1 h)⟩ (by simp only[];omega) ?_;repeat' first|exact trivial|exact rfl|refine And.intro ?_ ?_
 ·repeat'((conv=>whnf);first|refine aE ?_|fail)
  exact pR (by omega) k g.2
theorem D5(a b:List aD):ae Tryz.prog 320 [.c (.bs 4 aD cB a),.c (.bs 4 aD cB b)] [] (Rt (.c (.bool (decide (a=b)))) []):=by
 refine ak (n:=26) (n0:=0) tabOk Tryz.call320 Tryz.func320 ?_;intro hb;have hb:a.length≤9223372036854775807:=hb.1.1;repeat'((conv=>whnf);first|(refine aw (fun h=>?_) (fun h=>?_)<;>try contradiction)|refine aE ?_|fail)
 ·exact pn h
 (conv=>whnf);have k:a.length=b.length:=by omega
 refine lp Nat (fun i=>⟨[(0,.c (.bs 4 aD cB a)),(1,.c (.bs 4 aD cB b)),(12,.c (.int .i64 a.length)),(13,.c (.int .i64 i))],[]⟩) (fun i=>i≤a.length∧a.take i=b.take i) (fun i=>a.length-i) 0 [] [] ?_ ?_ (fun i g=>?_)
 ·simp
 ·repeat' first|exact trivial|exact rfl|refine And.intro ?_ ?_
 (conv=>whnf);refine dec (fun j=>?_) (fun j=>?_)
 ·have f:i<a.length:=by omega
  have d:i<b.length:=by omega
  (conv=>whnf);refine⟨false,.grow,(.l [0,1,2,3,4,5,6,7,8]),by kernel_rfl,.inl ?_⟩;repeat'((conv=>whnf);first|(refine aw (fun h=>?_) (fun h=>?_)<;>try contradiction)|refine⟨i64 (by omega) (by omega),?_⟩|refine⟨_,_,rfl,List.getElem?_eq_getElem (by omega),?_⟩|refine aE ?_|fail)
  ·exact pj f d (fun e=>h ((xY).2 e))
  ·refine ag (i+1) [] [] ⟨f,od f d g.2 ((xY).1 h)⟩ (by simp only[];omega) ?_;repeat' first|exact trivial|exact rfl|refine And.intro ?_ ?_
 ·repeat'((conv=>whnf);first|refine aE ?_|fail)
  exact pR (by omega) k g.2
theorem Ik(a b:List UInt8):ae Tryz.prog 18 [.c (.bs 1 UInt8 bt a),.c (.bs 1 UInt8 bt b)] [] (Rt (.c (.bool (decide (a=b)))) []):=by
 refine ak (n:=10) (n0:=0) tabOk Tryz.call18 Tryz.func18 ?_;intro hb;(conv=>whnf);refine⟨a,rfl,?_⟩;(conv=>whnf);refine⟨b,rfl,?_⟩;(conv=>whnf);exact dj rfl rfl
theorem th(l:List UInt8)(hl:l.length*1≤140737488355328):ae Tryz.prog 118 [.c (.bs 1 UInt8 bt l)] [] (Rt (.c (.rw 0)) [.row 1 UInt8 bt l]):=by
 refine ak (n:=8) (n0:=0) tabOk Tryz.call118 Tryz.func118 ?_;intro hb;(conv=>whnf);intro q a;(conv=>whnf);refine aL (fun h=>?_) (fun h=>?_)
 ·obtain rfl:=a h;(conv=>whnf);exact rx [] [.new]
 ·(conv=>whnf);refine⟨[],rfl,?_⟩;(conv=>whnf);refine⟨_,_,rfl,rfl,(by simp only[List.length_append,List.length_cons,List.length_nil];omega),?_⟩;(conv=>whnf);exact rx [] [.same 1]
theorem CV(l:List aD)(hl:l.length*40≤140737488355328):ae Tryz.prog 296 [.c (.bs 4 aD cB l)] [] (Rt (.c (.rw 0)) [.row 4 aD cB l]):=by
 refine ak (n:=8) (n0:=0) tabOk Tryz.call296 Tryz.func296 ?_;intro hb;(conv=>whnf);intro q a;(conv=>whnf);refine aL (fun h=>?_) (fun h=>?_)
 ·obtain rfl:=a h;(conv=>whnf);exact rx [] [.new]
 ·(conv=>whnf);refine⟨[],rfl,?_⟩;(conv=>whnf);refine⟨_,_,rfl,rfl,(by simp only[List.length_append,List.length_cons,List.length_nil];omega),?_⟩;(conv=>whnf);exact rx [] [.same 1]
theorem qu(l:List Int)(hl:l.length*8≤140737488355328):ae Tryz.prog 102 [.c (.bs 1 Int encI l)] [] (Rt (.c (.rw 0)) [.row 1 Int encI l]):=by
 refine ak (n:=8) (n0:=0) tabOk Tryz.call102 Tryz.func102 ?_;intro hb;(conv=>whnf);intro q a;(conv=>whnf);refine aL (fun h=>?_) (fun h=>?_)
 ·obtain rfl:=a h;(conv=>whnf);exact rx [] [.new]
 ·(conv=>whnf);refine⟨[],rfl,?_⟩;(conv=>whnf);refine⟨_,_,rfl,rfl,(by simp only[List.length_append,List.length_cons,List.length_nil];omega),?_⟩;(conv=>whnf);exact rx [] [.same 1]
end Go.Nest
end
section
namespace Go.Nest
open Go Go.AM Go.Proofs
open Go.Proofs.YtpechfcbnoggfaaGreatDoor (tab tabOk)
set_option maxRecDepth 4000
def gD(a:Option (List UInt8))(e:aD):Int:=
 if bJ e.name≠0 then bJ e.name else if e.mode<1∨3<e.mode then 6 else if e.id<0∨e.av<0∨4≤e.av then 1 else if e.mode≠3∧e.av≠0 then 7
 else match a with
  |some p=>if Op.bytesLess p e.name=true then 0 else 8
  |none=>0
def eM:Option (List UInt8)→List aD→Int
 |_,[]=>0
 |a,e::r=>if gD a e=0 then eM (some e.name) r else gD a e
def iL(l:List aD):Nat→Option (List UInt8)
 |0=>none
 |i+1=>(l[i]?).map (·.name)
def mS(l:List aD):Int:=if 60<l.length then 5 else eM none l
theorem D2{l:List aD}{i:Nat}(h:i<l.length)(hi:eM none l=eM (iL l i) (l.drop i)):eM none l=if gD (iL l i) l[i]=0 then eM (iL l (i+1)) (l.drop (i+1))else gD (iL l i) l[i]:=by
 rw[hi,List.drop_eq_getElem_cons h];have:iL l (i+1)=some l[i].name:=by simp[iL,h]
 rw[this,eM]
theorem Hs{l:List aD}{i:Nat}(h:0<i)(hi:i<l.length):iL l i=some (l[i-1]'(by omega)).name:=by
 cases i with
 |zero=>omega
 |succ j=>simp only[iL];rw[List.getElem?_eq_getElem (by omega)];rfl
theorem vT(l:List aD):ae Tryz.prog 318 [.c (.bs 4 aD cB l)] [] (Rt (.c (.int .i64 (mS l))) []):=by
 refine ak (n:=69) (n0:=0) tabOk Tryz.call318 Tryz.func318 ?_;intro hb;have hb:l.length≤9223372036854775807:=hb.1.1;repeat'((conv=>whnf);first|(refine dec (fun h=>?_) (fun h=>?_)<;>try contradiction)|refine aG ?_|fail)
 ·unfold mS;rw[if_pos (by omega)]
 (conv=>whnf);have m:mS l=eM none l:=by unfold mS;rw[if_neg (by omega)]
 rw[m];refine lp Nat (fun i=>⟨[(0,.c (.bs 4 aD cB l)),(9,.c (.bs 4 aD cB l)),(10,.c (.int .i64 l.length)),(11,.c (.int .i64 i))],[]⟩) (fun i=>i≤l.length∧eM none l=eM (iL l i) (l.drop i)) (fun i=>l.length-i) 0 [] [] ?_ ?_ (fun i e=>?_)
 ·simp[iL]
 ·repeat' first|exact trivial|exact rfl|refine And.intro ?_ ?_
 (conv=>whnf);refine dec (fun j=>?_) (fun j=>?_)
 ·have a:i<l.length:=by omega
  have d:=D2 a e.2;repeat'((conv=>whnf);first|refine⟨_,_,rfl,List.getElem?_eq_getElem (by omega),?_⟩|fail)
  (conv=>whnf);refine cl [] [] (ry l[i].name) ?_;have b:∀{c:Int},gD (iL l i) l[i]=c→c≠0→c=eM none l:=fun f g=>by rw[d,f,if_neg g]
  repeat'((conv=>whnf);first|(refine dec (fun h=>?_) (fun h=>?_)<;>try contradiction)|(refine aw (fun h=>?_) (fun h=>?_)<;>try contradiction)|refine aG ?_|fail)
  all_goals first|(refine b ?_ ?_<;>simp[gD, *];done)|skip
  all_goals
   (conv=>whnf);refine⟨false,.grow,(.l [0,1,2,3,4,5,6,7,8,9,10,11,12,13]),by kernel_rfl,.inl ?_⟩;repeat'((conv=>whnf);first|(refine dec (fun h=>?_) (fun h=>?_)<;>try contradiction)|refine⟨i64 (by omega) (by omega),?_⟩|fail)
   ·(conv=>whnf);refine⟨i-1,l[i-1],by omega,List.getElem?_eq_getElem (by omega),?_⟩;have k:=Hs (l:=l) (i:=i) (by omega) a;repeat'((conv=>whnf);first|refine cO (fun h=>?_) (fun h=>?_)|refine⟨i64 (by omega) (by omega),?_⟩|refine aG ?_|fail)
    ·refine b ?_ (by decide);simp[gD, *]
    ·refine ag (i+1) [] [] ⟨a,?_⟩ (by simp only[];omega) ?_
     ·rw[d,if_pos];simp[gD, *]
     repeat' first|exact trivial|exact rfl|refine And.intro ?_ ?_
   ·have k:iL l i=none:=by
     obtain rfl:i=0:=by omega
     rfl
    skip;refine ag (i+1) [] [] ⟨a,?_⟩ (by simp only[];omega) ?_
    ·rw[d,if_pos];simp[gD, *]
    repeat' first|exact trivial|exact rfl|refine And.intro ?_ ?_
 ·repeat'((conv=>whnf);first|refine aG ?_|fail)
  have:=e.2;rw[List.drop_of_length_le (by omega)]at this;rw[this];rfl
end Go.Nest
end
section
namespace Go.Nest
open Go Go.AM Go.Proofs
open Go.Proofs.YtpechfcbnoggfaaGreatDoor (tab tabOk)
set_option maxRecDepth 4000
def bF{α:Type}(p:α→Bool)(l:List α):Int:=match l.findIdx? p with
 |some i=>i
 |none=> -1
theorem jk{α:Type}{p:α→Bool}{l:List α}{i:Nat}(h:i<l.length)(h1:(l.take i).any p=false)(h2:p l[i]=true):(i:Int)=bF p l:=by
 have:l.findIdx? p=some i:=by
  rw[List.findIdx?_eq_some_iff_getElem];refine⟨h,h2,fun j a=>?_⟩;rw[List.any_eq_false]at h1;have:=h1 l[j] (by rw[List.mem_take_iff_getElem];exact⟨j,by omega,rfl⟩);simpa using this
 unfold bF;rw[this]
theorem jT{α:Type}{p:α→Bool}{l:List α}(h1:l.any p=false):(-1:Int)=bF p l:=by
 have:l.findIdx? p=none:=by
  rw[List.findIdx?_eq_none_iff];rw[List.any_eq_false]at h1;intro x a;simpa using h1 x a
 unfold bF;rw[this]
theorem nH{α:Type}{p:α→Bool}{l:List α}:decide (0≤bF p l)=l.any p:=by
 unfold bF;cases h:l.findIdx? p with
 |none=>
  rw[List.findIdx?_eq_none_iff]at h;simp;exact h
 |some i=>
  rw[List.findIdx?_eq_some_iff_getElem]at h;obtain⟨a,b,_⟩:=h;rw[oA a b];simp
theorem Fm{g:Nat}{p:Int→Bool}(e:∀x,ae Tryz.prog g [.c (.int .i64 x)] [] (Rt (.c (.bool (p x))) []))(l:List Int):ae Tryz.prog 178 [.c (.bs 1 Int encI l),.c (.fn g [])] [] (Rt (.c (.int .i64 (bF p l))) []):=by
 refine ak (n:=19) (n0:=0) tabOk Tryz.call178 Tryz.func178 ?_;intro hb;have hb:l.length≤9223372036854775807:=hb.1.1;(conv=>whnf);refine lp Nat (fun i=>⟨[(0,.c (.bs 1 Int encI l)),(1,.c (.fn g [])),(7,.c (.int .i64 l.length)),(8,.c (.int .i64 i))],[]⟩) (fun i=>i≤l.length∧(l.take i).any p=false) (fun i=>l.length-i) 0 [] [] ?_ ?_ (fun i b=>?_)
 ·simp
 ·repeat' first|exact trivial|exact rfl|refine And.intro ?_ ?_
 (conv=>whnf);refine dec (fun d=>?_) (fun d=>?_)
 ·have a:i<l.length:=by omega
  repeat'((conv=>whnf);first|refine⟨_,_,rfl,List.getElem?_eq_getElem (by omega),?_⟩|fail)
  (conv=>whnf);refine cl [] [] (e l[i]) ?_;repeat'((conv=>whnf);first|refine aL (fun h=>?_) (fun h=>?_)|refine⟨i64 (by omega) (by omega),?_⟩|refine aG ?_|fail)
  ·exact jk a b.2 h
  ·refine ag (i+1) [] [] ⟨a,gA a b.2 h⟩ (by simp only[];omega) ?_;repeat' first|exact trivial|exact rfl|refine And.intro ?_ ?_
 ·repeat'((conv=>whnf);first|refine aG ?_|fail)
  have:=b.2;rw[List.take_of_length_le (by omega)]at this;exact jT this
theorem tw{g:Nat}{p:Int→Bool}(a:∀x,ae Tryz.prog g [.c (.int .i64 x)] [] (Rt (.c (.bool (p x))) []))(l:List Int):ae Tryz.prog 106 [.c (.bs 1 Int encI l),.c (.fn g [])] [] (Rt (.c (.bool (l.any p))) []):=by
 refine ak (n:=9) (n0:=0) tabOk Tryz.call106 Tryz.func106 ?_;intro hb;(conv=>whnf);refine cl [] [] (Fm a l) ?_;(conv=>whnf);exact aE nH
theorem tc(n:Int):ae Tryz.prog 316 [.c (.int .i64 n)] [] (Rt (.c (.bool (decide (n<0)))) []):=by
 refine ak (n:=5) (n0:=0) tabOk Tryz.call316 Tryz.func316 ?_;intro hb;(conv=>whnf);exact aE rfl
def bW(o:Ob):Int:=
 if o.kind<1∨3<o.kind then 6
 else if(o.kind≠1∧0<o.bytes.length)∨(o.kind≠2∧0<o.entries.length)∨(o.kind≠3∧(o.tree≠0∨0<o.parents.length∨0<o.text.length))then 7
 else if 400<o.bytes.length∨60<o.text.length then 4
 else if 3<o.parents.length then 5
 else if o.tree<0 then 1
 else if o.parents.any (fun k=>decide (k<0))=true then 1
 else if o.text.all shown=true then mS o.entries
 else 2
set_option maxHeartbeats 2000000 in
theorem CR(o:Ob):ae Tryz.prog 270 [.st (gB o)] [] (Rt (.c (.int .i64 (bW o))) []):=by
 obtain⟨kind,bytes,a,tree,b,d⟩:=o;refine ak (n:=98) (n0:=0) tabOk Tryz.call270 Tryz.func270 ?_;intro hb;(conv=>whnf);refine⟨false,.grow,(.l [0,1,2,3,4,5,6,7,8,9,10,11]),by kernel_rfl,.inl ?_⟩;by_cases e:kind=1
 ·subst e;repeat'((conv=>whnf);first|(refine dec (fun h=>?_) (fun h=>?_)<;>try contradiction)|(refine aw (fun h=>?_) (fun h=>?_)<;>try contradiction)|refine aG ?_|fail)
  all_goals first|(show(_:Int)=bW _;dsimp only at*;(try simp only[str_nil,←List.length_eq_zero_iff]at*);simp only[bW];(repeat' split)<;>first|rfl|(exfalso;omega)|(simp_all;done))|skip
  all_goals
   (conv=>whnf);refine cl [] [] (tw tc b) ?_;repeat'((conv=>whnf);first|refine aL (fun h=>?_) (fun h=>?_)|refine aG ?_|fail)
  all_goals first|(show(_:Int)=bW _;dsimp only at*;(try simp only[str_nil,←List.length_eq_zero_iff]at*);simp only[bW];(repeat' split)<;>first|rfl|(exfalso;omega)|(simp_all;done))|skip
  all_goals
   (conv=>whnf);refine cl [] [] (vX d) ?_;repeat'((conv=>whnf);first|refine cO (fun h=>?_) (fun h=>?_)|refine aG ?_|fail)
  all_goals first|(show(_:Int)=bW _;dsimp only at*;(try simp only[str_nil,←List.length_eq_zero_iff]at*);simp only[bW];(repeat' split)<;>first|rfl|(exfalso;omega)|(simp_all;done))|skip
  all_goals
   (conv=>whnf);refine cl [] [] (vT a) ?_;repeat'((conv=>whnf);first|refine aG ?_|fail)
  all_goals first|(show(_:Int)=bW _;dsimp only at*;(try simp only[str_nil,←List.length_eq_zero_iff]at*);simp only[bW];(repeat' split)<;>first|rfl|(exfalso;omega)|(simp_all;done))|skip
 by_cases f:kind=2
 ·subst f;repeat'((conv=>whnf);first|(refine dec (fun h=>?_) (fun h=>?_)<;>try contradiction)|(refine aw (fun h=>?_) (fun h=>?_)<;>try contradiction)|refine aG ?_|fail)
  all_goals first|(show(_:Int)=bW _;dsimp only at*;(try simp only[str_nil,←List.length_eq_zero_iff]at*);simp only[bW];(repeat' split)<;>first|rfl|(exfalso;omega)|(simp_all;done))|skip
  all_goals
   (conv=>whnf);refine cl [] [] (tw tc b) ?_;repeat'((conv=>whnf);first|refine aL (fun h=>?_) (fun h=>?_)|refine aG ?_|fail)
  all_goals first|(show(_:Int)=bW _;dsimp only at*;(try simp only[str_nil,←List.length_eq_zero_iff]at*);simp only[bW];(repeat' split)<;>first|rfl|(exfalso;omega)|(simp_all;done))|skip
  all_goals
   (conv=>whnf);refine cl [] [] (vX d) ?_;repeat'((conv=>whnf);first|refine cO (fun h=>?_) (fun h=>?_)|refine aG ?_|fail)
  all_goals first|(show(_:Int)=bW _;dsimp only at*;(try simp only[str_nil,←List.length_eq_zero_iff]at*);simp only[bW];(repeat' split)<;>first|rfl|(exfalso;omega)|(simp_all;done))|skip
  all_goals
   (conv=>whnf);refine cl [] [] (vT a) ?_;repeat'((conv=>whnf);first|refine aG ?_|fail)
  all_goals first|(show(_:Int)=bW _;dsimp only at*;(try simp only[str_nil,←List.length_eq_zero_iff]at*);simp only[bW];(repeat' split)<;>first|rfl|(exfalso;omega)|(simp_all;done))|skip
 by_cases g:kind=3
 ·subst g;repeat'((conv=>whnf);first|(refine dec (fun h=>?_) (fun h=>?_)<;>try contradiction)|refine aG ?_|fail)
  all_goals first|(show(_:Int)=bW _;dsimp only at*;(try simp only[str_nil,←List.length_eq_zero_iff]at*);simp only[bW];(repeat' split)<;>first|rfl|(exfalso;omega)|(simp_all;done))|skip
  all_goals
   (conv=>whnf);refine cl [] [] (tw tc b) ?_;repeat'((conv=>whnf);first|refine aL (fun h=>?_) (fun h=>?_)|refine aG ?_|fail)
  all_goals first|(show(_:Int)=bW _;dsimp only at*;(try simp only[str_nil,←List.length_eq_zero_iff]at*);simp only[bW];(repeat' split)<;>first|rfl|(exfalso;omega)|(simp_all;done))|skip
  all_goals
   (conv=>whnf);refine cl [] [] (vX d) ?_;repeat'((conv=>whnf);first|refine cO (fun h=>?_) (fun h=>?_)|refine aG ?_|fail)
  all_goals first|(show(_:Int)=bW _;dsimp only at*;(try simp only[str_nil,←List.length_eq_zero_iff]at*);simp only[bW];(repeat' split)<;>first|rfl|(exfalso;omega)|(simp_all;done))|skip
  all_goals
   (conv=>whnf);refine cl [] [] (vT a) ?_;repeat'((conv=>whnf);first|refine aG ?_|fail)
  all_goals first|(show(_:Int)=bW _;dsimp only at*;(try simp only[str_nil,←List.length_eq_zero_iff]at*);simp only[bW];(repeat' split)<;>first|rfl|(exfalso;omega)|(simp_all;done))|skip
 ·have:bW ⟨kind,bytes,a,tree,b,d⟩=6:=by
   unfold bW;rw[if_pos (by simp only[];omega)]
  rw[this];repeat'((conv=>whnf);first|(refine aw (fun h=>?_) (fun h=>?_)<;>try contradiction)|refine aG ?_|fail)
  all_goals rfl
end Go.Nest
end
section
namespace Go.Nest
open Go Go.AM Go.Proofs
open Go.Proofs.YtpechfcbnoggfaaGreatDoor (tab tabOk)
set_option maxRecDepth 4000
theorem uY{o u:Ob}(h:¬(o.kind=u.kind∧o.tree=u.tree∧o.text=u.text∧o.bytes=u.bytes∧o.entries=u.entries∧o.parents=u.parents)):false=decide (o=u):=by
 symm;rw[decide_eq_false_iff_not];intro e;subst e;exact h ⟨rfl,rfl,rfl,rfl,rfl,rfl⟩
theorem GP{o u:Ob}(h1:o.kind=u.kind)(h2:o.tree=u.tree)(a:o.text=u.text)(b:o.bytes=u.bytes)(c:o.entries=u.entries)(d:o.parents=u.parents):o=u:=by
 cases o;cases u;simp_all
theorem Iq(o u:Ob):ae Tryz.prog 274 [.st (gB o),.st (gB u)] [] (Rt (.c (.bool (decide (o=u)))) []):=by
 refine ak (n:=45) (n0:=0) tabOk Tryz.call274 Tryz.func274 ?_;intro hb;repeat'((conv=>whnf);first|(refine dec (fun h=>?_) (fun h=>?_)<;>try contradiction)|refine aE ?_|fail)
 ·(conv=>whnf);refine cl [] [] (D4 o.bytes u.bytes) ?_;repeat'((conv=>whnf);first|(refine dec (fun h=>?_) (fun h=>?_)<;>try contradiction)|refine aE ?_|fail)
  ·(conv=>whnf);refine cl [] [] (D5 o.entries u.entries) ?_;repeat'((conv=>whnf);first|(refine dec (fun h=>?_) (fun h=>?_)<;>try contradiction)|refine aE ?_|fail)
   ·(conv=>whnf);refine cl [] [] (D8 o.parents u.parents) ?_;repeat'((conv=>whnf);first|refine aE ?_|fail)
    rw[Bool.eq_iff_iff,decide_eq_true_iff,decide_eq_true_iff];exact⟨fun a=>by apply GP<;>assumption,fun e=>by rw[e]⟩
   all_goals exact uY (by simp[*])
  all_goals exact uY (by simp[*])
 all_goals exact uY (by simp[*])
theorem Al(o:Ob)(h1:o.bytes.length*1≤140737488355328)(h2:o.entries.length*40≤140737488355328)(a:o.parents.length*8≤140737488355328):ae Tryz.prog 247 [.st (gB o)] [] (Rt (.st (an o)) []):=by
 refine ak (n:=16) (n0:=0) tabOk Tryz.call247 Tryz.func247 ?_;intro hb;(conv=>whnf);refine⟨false,.grow,(.l [0,1,3,4,6,7,2,9,5,8,10,11,12,13,14]),by kernel_rfl,.inl ?_⟩;skip;(conv=>whnf);refine cl [] [] (th o.bytes h1) ?_;skip;(conv=>whnf);refine cl [] [] (CV o.entries h2) ?_;skip;(conv=>whnf);refine cl [] [] (qu o.parents a) ?_;skip;(conv=>whnf);exact rx [2,3,4] []
end Go.Nest
end
section
namespace Go.Nest
open Go Go.AM Go.Proofs
open Go.Proofs.YtpechfcbnoggfaaGreatDoor (tab tabOk)
set_option maxRecDepth 4000
def lL:Ob:=⟨0,[],[],0,[],[]⟩
def kindOf(l:List Ob)(id:Int):Int:=if id<0 then 0 else((l[id.toNat]?).map (·.kind)).getD 0
theorem zd{l:List Ob}{id:Int}(h:id<0):(0:Int)=kindOf l id:=by simp[kindOf,h]
theorem zc{l:List Ob}{id:Int}(h:(l.length:Int)≤id):(0:Int)=kindOf l id:=by
 unfold kindOf;split
 ·rfl
 ·rw[List.getElem?_eq_none (by omega)];rfl
theorem FJ{l:List Ob}{id:Int}(h:¬id<0)(h2:id.toNat<l.length):l[id.toNat].kind=kindOf l id:=by
 unfold kindOf;rw[if_neg h,List.getElem?_eq_getElem h2];rfl
theorem nN(l:List Ob)(id:Int):ae Tryz.prog 103 [.c (.bp [.bs 6 Ob an l]),.c (.int .i64 id)] [] (Rt (.c (.int .i64 (kindOf l id))) []):=by
 refine ak (n:=24) (n0:=0) tabOk Tryz.call103 Tryz.func103 ?_;intro hb;repeat'((conv=>whnf);first|(refine dec (fun h=>?_) (fun h=>?_)<;>try contradiction)|refine aG ?_|fail)
 ·exact zd h
 ·exact zc h
 ·(conv=>whnf);have a:id.toNat<l.length:=by omega
  refine⟨id.toNat,l[id.toNat],by omega,List.getElem?_eq_getElem a,?_⟩;repeat'((conv=>whnf);first|refine aG ?_|fail)
  exact FJ (by assumption) a
theorem o9(l:List Ob):ae Tryz.prog 71 [.c (.bp [.bs 6 Ob an l])] [] (Rt (.c (.int .i64 l.length)) []):=by
 refine ak (n:=8) (n0:=0) tabOk Tryz.call71 Tryz.func71 ?_;intro hb;repeat'((conv=>whnf);first|refine aG ?_|fail)
 rfl
def dR(l:List Ob)(o:Ob):Bool:=(o.entries.all fun e=>decide (kindOf l e.id=e.mode))&&((o.parents.all fun k=>decide (kindOf l k=3))&&(!decide (o.kind=3)||decide (kindOf l o.tree=2)))
theorem sN{α:Type}{p:α→Bool}{l:List α}{i:Nat}(h:i<l.length)(h1:(l.take i).all p=true)(h2:p l[i]=true):(l.take (i+1)).all p=true:=by
 rw[List.take_succ_eq_append_getElem h,List.all_append,h1];simp[h2]
theorem sM{α:Type}{p:α→Bool}{l:List α}{i:Nat}(h:i<l.length)(h2:¬p l[i]=true):l.all p=false:=by
 rw[Bool.eq_false_iff,Ne,List.all_eq_true];exact fun a=>h2 (a _ (List.getElem_mem h))
theorem Bv{m:Int}(h:1≤m∧m≤3):([0,1,2,3]:List Int)[m.toNat]? =some m:=by
 have:m=1∨m=2∨m=3:=by omega
 rcases this with rfl|rfl|rfl<;>rfl
theorem FZ(l:List Ob)(o:Ob)(ho:∀e∈o.entries,1≤e.mode∧e.mode≤3):ae Tryz.prog 271 [.c (.bp [.bs 6 Ob an l]),.st (gB o)] [] (Rt (.c (.bool (dR l o))) []):=by
 refine iX (n:=49) (n0:=0) tabOk Tryz.call271 Tryz.func271 ?_;intro hb;have p:o.entries.length≤9223372036854775807:=hb.1.2.1.2.2.1;have q:o.parents.length≤9223372036854775807:=hb.1.2.1.2.2.2.2.1;refine XM.seq ?_;skip;refine XM.join (ι:=Unit) (fun _=>⟨[(0,.c (.bp [.bs 6 Ob an l])),(3,.c (.ptr 0 0))],[.box (gB o)]⟩) (fun _=>(o.entries.all fun e=>decide (kindOf l e.id=e.mode))=true) ?_ (fun _ g=>?_)
 ·(conv=>whnf);refine lp Nat (fun i=>⟨[(0,.c (.bp [.bs 6 Ob an l])),(3,.c (.ptr 0 0)),(10,.c (.bs 4 aD cB o.entries)),(11,.c (.int .i64 o.entries.length)),(12,.c (.int .i64 i))],[.box (gB o)]⟩) (fun i=>i≤o.entries.length∧(o.entries.take i).all (fun e=>decide (kindOf l e.id=e.mode))=true) (fun i=>o.entries.length-i) 0 [] [.same 0] ?_ ?_ (fun i b=>?_)
  ·simp
  ·repeat' first|exact trivial|exact rfl|refine And.intro ?_ ?_
  (conv=>whnf);refine dec (fun d=>?_) (fun d=>?_)
  ·have a:i<o.entries.length:=by omega
   have f:=ho _ (List.getElem_mem a);repeat'((conv=>whnf);first|refine⟨_,_,rfl,List.getElem?_eq_getElem (by omega),?_⟩|fail)
   (conv=>whnf);refine⟨false,.grow,(.alt [0,1,2,5,6] [3,4] fun j=>bif Nat.beq j 3 then(.l [4,7,8,9])else bif Nat.beq j 4 then(.l [7,8,3,9])else .l []),by kernel_rfl,.inl ?_⟩;(conv=>whnf);refine⟨?_,?_⟩
   ·(conv=>whnf);refine cl [] [] (nN l o.entries[i].id) ?_;skip;(conv=>whnf);refine⟨[0,1,2,3],rfl,?_⟩;(conv=>whnf);refine⟨o.entries[i].mode.toNat,⟨by omega,by simp only[List.length_cons,List.length_nil];omega⟩,?_⟩;(conv=>whnf);refine⟨_,Bv f,?_⟩;repeat'((conv=>whnf);first|(refine aw (fun h=>?_) (fun h=>?_)<;>try contradiction)|refine⟨i64 (by omega) (by omega),?_⟩|refine aE ?_|fail)
    ·unfold dR;rw[sM (l:=o.entries) a (by simpa using h)];simp
    ·refine ag (i+1) [] [.same 0] ⟨a,sN a b.2 (by simpa using h)⟩ (by simp only[];omega) ?_;repeat' first|exact trivial|exact rfl|refine And.intro ?_ ?_
   ·(conv=>whnf);refine⟨[0,1,2,3],rfl,?_⟩;(conv=>whnf);refine⟨o.entries[i].mode.toNat,⟨by omega,by simp only[List.length_cons,List.length_nil];omega⟩,?_⟩;(conv=>whnf);refine⟨_,Bv f,?_⟩;(conv=>whnf);refine cl [] [] (nN l o.entries[i].id) ?_;repeat'((conv=>whnf);first|(refine aw (fun h=>?_) (fun h=>?_)<;>try contradiction)|refine⟨i64 (by omega) (by omega),?_⟩|refine aE ?_|fail)
    ·unfold dR;rw[sM (l:=o.entries) a (by simpa using h)];simp
    ·refine ag (i+1) [] [.same 0] ⟨a,sN a b.2 (by simpa using h)⟩ (by simp only[];omega) ?_;repeat' first|exact trivial|exact rfl|refine And.intro ?_ ?_
  ·have:=b.2;rw[List.take_of_length_le (by omega)]at this;(conv=>whnf);refine⟨(),this,[],[.same 0],?_⟩;repeat' first|exact trivial|exact rfl|refine And.intro ?_ ?_
 refine XM.join (ι:=Unit) (fun _=>⟨[(0,.c (.bp [.bs 6 Ob an l])),(3,.c (.ptr 0 0))],[.box (gB o)]⟩) (fun _=>(o.parents.all fun k=>decide (kindOf l k=3))=true) ?_ (fun _ m=>?_)
 ·(conv=>whnf);refine lp Nat (fun i=>⟨[(0,.c (.bp [.bs 6 Ob an l])),(3,.c (.ptr 0 0)),(28,.c (.bs 1 Int encI o.parents)),(29,.c (.int .i64 o.parents.length)),(30,.c (.int .i64 i))],[.box (gB o)]⟩) (fun i=>i≤o.parents.length∧(o.parents.take i).all (fun k=>decide (kindOf l k=3))=true) (fun i=>o.parents.length-i) 0 [] [.same 0] ?_ ?_ (fun i b=>?_)
  ·simp
  ·repeat' first|exact trivial|exact rfl|refine And.intro ?_ ?_
  (conv=>whnf);refine dec (fun d=>?_) (fun d=>?_)
  ·have a:i<o.parents.length:=by omega
   repeat'((conv=>whnf);first|refine⟨_,_,rfl,List.getElem?_eq_getElem (by omega),?_⟩|fail)
   (conv=>whnf);refine cl [] [] (nN l o.parents[i]) ?_;repeat'((conv=>whnf);first|(refine aw (fun h=>?_) (fun h=>?_)<;>try contradiction)|refine⟨i64 (by omega) (by omega),?_⟩|refine aE ?_|fail)
   ·unfold dR;rw[sM (l:=o.parents) a (by simpa using h)];simp
   ·refine ag (i+1) [] [.same 0] ⟨a,sN a b.2 (by simpa using h)⟩ (by simp only[];omega) ?_;repeat' first|exact trivial|exact rfl|refine And.intro ?_ ?_
  ·have:=b.2;rw[List.take_of_length_le (by omega)]at this;(conv=>whnf);refine⟨(),this,[],[.same 0],?_⟩;repeat' first|exact trivial|exact rfl|refine And.intro ?_ ?_
 refine XM.of ?_;have r:dR l o=(!decide (o.kind=3)||decide (kindOf l o.tree=2)):=by unfold dR;rw[g,m];rfl
 rw[r];repeat'((conv=>whnf);first|(refine aw (fun h=>?_) (fun h=>?_)<;>try contradiction)|refine aE ?_|fail)
 ·simp[h]
 ·(conv=>whnf);refine cl [] [] (nN l o.tree) ?_;repeat'((conv=>whnf);first|refine aE ?_|fail)
  simp[h]
end Go.Nest
end
section
namespace Go.Nest
open Go Go.AM
theorem D1{p:Option (List UInt8)}{e:aD}(h:gD p e=0):bJ e.name=0∧(1≤e.mode∧e.mode≤3)∧0≤e.id∧(0≤e.av∧e.av<4)∧(e.mode=3∨e.av=0):=by
 unfold gD at h;split at h
 ·exact absurd h ‹_›
 split at h
 ·cases h
 split at h
 ·cases h
 split at h
 ·cases h
 refine⟨?_,?_,?_,?_,?_⟩<;>omega
theorem mh:∀{l:List aD} {p:Option (List UInt8)},eM p l=0→∀e∈l,bJ e.name=0∧(1≤e.mode∧e.mode≤3)∧0≤e.id∧(0≤e.av∧e.av<4)∧(e.mode=3∨e.av=0)
 |[],_,_,e,he=>by cases he
 |x::l,p,h,e,he=>by
  unfold eM at h;split at h
  ·rename_i a;rcases List.mem_cons.1 he with rfl|he
   ·exact D1 a
   ·exact mh h e he
  ·exact absurd h ‹_›
structure kl(o:Ob):Prop where
 k1:1≤o.kind
 k3:o.kind≤3
 bytes:o.bytes.length≤400
 text:o.text.length≤60
 parents:o.parents.length≤3
 entries:o.entries.length≤60
 nb:o.kind≠1→o.bytes=[]
 ne:o.kind≠2→o.entries=[]
 nc:o.kind≠3→o.tree=0∧o.parents=[]∧o.text=[]
 tree:0≤o.tree
 par:∀k∈o.parents,0≤k
 txt:o.text.all shown=true
 ents:eM none o.entries=0
theorem ra{α:Type}{l:List α}(h:¬0<l.length):l=[]:=List.eq_nil_of_length_eq_zero (by omega)
theorem pt{o:Ob}(h:bW o=0):kl o:=by
 simp only[bW]at h;split at h
 ·cases h
 split at h
 ·cases h
 split at h
 ·cases h
 split at h
 ·cases h
 split at h
 ·cases h
 split at h
 ·cases h
 split at h
 ·unfold mS at h;split at h
  ·cases h
  rename_i d e f g i b c j;refine⟨by omega,by omega,by omega,by omega,by omega,by omega,fun a=>ra (by omega),fun a=>ra (by omega),fun a=>⟨by omega,ra (by omega),ra (by omega)⟩,by omega,fun k a=>?_,c,h⟩;rw[Bool.not_eq_true,List.any_eq_false]at b;have:=b k a;simpa using this
 ·cases h
theorem kl.uT{o:Ob}(h:kl o):∀e∈o.entries,1≤e.mode∧e.mode≤3:=fun e a=>(mh h.ents e a).2.1
inductive ai:List Ob→Prop
 |nil:ai []
 |snoc {l:List Ob} {o:Ob} (h:ai l) (ho:bW o=0) (hl:dR l o=true) (hn:o∉l) (hlen:l.length<600):ai (l++[o])
theorem ai.len{l:List Ob}(h:ai l):l.length≤600:=by
 cases h with
 |nil=>simp
 |snoc _ _ _ _ h=>simp;omega
theorem ai.mem{l:List Ob}(h:ai l):∀o∈l,kl o:=by
 induction h with
 |nil=>intro o a;cases a
 |snoc _ a _ _ _ ih=>
  intro u hu;rcases List.mem_append.1 hu with hu|hu
  ·exact ih u hu
  ·rw[List.mem_singleton]at hu;subst hu;exact pt a
def ax(l:List Ob)(o:Ob):Int×Int×List Ob:=
 if bW o≠0 then(0,bW o,l)else if dR l o=false then(0,14,l)else if 0≤bF (fun x=>decide (x=o)) l then(bF (fun x=>decide (x=o)) l,0,l)
 else if l.length=600 then(0,15,l)else(l.length,0,l++[o])
theorem E0{α:Type}{p:α→Bool}{l:List α}(h:¬0≤bF p l):l.any p=false:=by rw[←nH];simpa using h
theorem jv{l:List Ob}(h:ai l)(o:Ob):ai (ax l o).2.2:=by
 unfold ax;split
 ·exact h
 split
 ·exact h
 split
 ·exact h
 split
 ·exact h
 rename_i a b c e;refine .snoc h (by simpa using a) (by simpa using b) ?_ (by have:=h.len;omega);have:=E0 c;rw[List.any_eq_false]at this;intro d;simpa using this o d
def aj(l:List Ob)(id:Int):Ob:=if id<0 then lL else(l[id.toNat]?).getD lL
theorem ku{l:List Ob}{id:Int}(h:¬id<0)(h2:id.toNat<l.length):aj l id=l[id.toNat]:=by
 unfold aj;rw[if_neg h,List.getElem?_eq_getElem h2];rfl
theorem eP{l:List Ob}{id:Int}:(aj l id).kind=kindOf l id:=by
 unfold aj kindOf;split
 ·rfl
 ·cases l[id.toNat]? <;>rfl
theorem dh{l:List Ob}{id:Int}(h:¬kindOf l id=0):¬id<0∧id.toNat<l.length:=by
 by_cases a:id<0
 ·exact absurd (zd a).symm h
 ·refine⟨a,?_⟩;by_cases b:(l.length:Int)≤id
  ·exact absurd (zc b).symm h
  ·omega
theorem ai.get{l:List Ob}(h:ai l){id:Int}(h1:¬kindOf l id=0):kl (aj l id):=by
 obtain⟨b,a⟩:=dh h1;rw[ku b a];exact h.mem _ (List.getElem_mem a)
theorem ai.lD{l:List Ob}(h:ai l){id:Int}(h1:kindOf l id=0):aj l id=lL:=by
 unfold aj;split
 ·rfl
 ·cases a:l[id.toNat]? with
  |none=>rfl
  |some o=>
   exfalso;have:=(h.mem o (List.mem_of_getElem? a)).k1;unfold kindOf at h1;rw[if_neg ‹_›,a]at h1;simp at h1;omega
def cL(l:List Ob)(id:Int):List Int:=((aj l id).entries.filter fun e=>decide (e.mode≠3)).map (·.id)++((if(aj l id).kind=3 then[(aj l id).tree]else[])++(aj l id).parents)
theorem z8{l:List Ob}(h:ai l)(id:Int):(cL l id).length≤64:=by
 unfold cL;by_cases a:kindOf l id=0
 ·rw[h.lD a];simp[lL]
 ·have:=h.get a;have c:=this.entries;have d:=this.parents;have b:=List.length_filter_le (fun e:aD=>decide (e.mode≠3)) (aj l id).entries;rw[List.length_append,List.length_append,List.length_map];split<;>simp<;>simp at b<;>omega
end Go.Nest
end
section
namespace Go.Nest
open Go Go.AM
inductive bO(l:List Ob)(ids:List Int):Int→Prop
 |base {k:Int} (h:k∈ids) (hk:¬kindOf l k=0):bO l ids k
 |step {j k:Int} (h:bO l ids j) (hk:k∈cL l j):bO l ids k
theorem nM{l m:List Ob}{k:Int}(h:¬kindOf l k=0):kindOf (l++m) k=kindOf l k:=by
 obtain⟨a,b⟩:=dh h;unfold kindOf;rw[if_neg a,if_neg a,List.getElem?_append_left b]
theorem Kk{l:List Ob}{o:Ob}:kindOf (l++[o]) l.length=o.kind:=by
 unfold kindOf;rw[if_neg (by omega)];simp
theorem yE{l m:List Ob}{k:Int}(h2:k<l.length):aj (l++m) k=aj l k:=by
 unfold aj;split
 ·rfl
 ·rw[List.getElem?_append_left (by omega)]
theorem ua{l:List Ob}{o:Ob}:aj (l++[o]) l.length=o:=by
 unfold aj;rw[if_neg (by omega)];simp
theorem GN{l m:List Ob}{k:Int}(h2:k<l.length):cL (l++m) k=cL l k:=by unfold cL;rw[yE h2]
theorem Gq{l:List Ob}{j k:Int}(h:k∈cL l j):(∃e∈(aj l j).entries,e.mode≠3∧e.id=k)∨((aj l j).kind=3∧k=(aj l j).tree)∨k∈(aj l j).parents:=by
 unfold cL at h;rw[List.mem_append,List.mem_append,List.mem_map]at h;rcases h with⟨e,a,h⟩|h|h
 ·rw[List.mem_filter]at a;exact .inl ⟨e,a.1,by simpa using a.2,h⟩
 ·split at h
  ·rw[List.mem_singleton]at h;exact .inr (.inl ⟨‹_›,h⟩)
  ·cases h
 ·exact .inr (.inr h)
theorem FY{l:List Ob}{o:Ob}(ho:kl o)(hl:dR l o=true){j k:Int}(hj:aj (l++[o]) j=o)(h:k∈cL (l++[o]) j):¬kindOf l k=0:=by
 unfold dR at hl;rw[Bool.and_eq_true,Bool.and_eq_true,List.all_eq_true,List.all_eq_true]at hl;have:=Gq h;rw[hj]at this;rcases this with⟨e,b,h1,rfl⟩|⟨h1,rfl⟩|h1
 ·have a:=hl.1 e b;have c:=ho.uT e b;rw[decide_eq_true_iff]at a;omega
 ·have a:=hl.2.2;simp[h1]at a;omega
 ·have a:=hl.2.1 k h1;rw[decide_eq_true_iff]at a;omega
theorem uW{l:List Ob}(hl:ai l){j k:Int}(h:k∈cL l j):¬kindOf l k=0∧k<j:=by
 induction hl with
 |nil=>unfold cL aj at h;split at h<;>simp[lL]at h
 | @snoc l o n g c m e ih=>
  by_cases f:j<l.length
  ·rw[GN f]at h;obtain⟨a,d⟩:=ih h;exact⟨by rw[nM a];exact a,d⟩
  ·by_cases b:j=l.length
   ·subst b;have a:=FY (pt g) c ua h;obtain⟨d,i⟩:=dh a;exact⟨by rw[nM a];exact a,by omega⟩
   ·exfalso
    have:aj (l++[o]) j=lL:=by
     unfold aj;rw[if_neg (by omega),List.getElem?_eq_none (by rw[List.length_append,List.length_singleton];omega)];rfl
    unfold cL at h;rw[this]at h;simp[lL]at h
theorem bO.kind{l:List Ob}{ids:List Int}(hl:ai l){k:Int}(h:bO l ids k):¬kindOf l k=0:=by
 cases h with
 |base _ a=>exact a
 |step _ a=>exact(uW hl a).1
noncomputable def aN(l:List Ob)(ids:List Int):List Int:=((List.range l.length).filter fun k:Nat=> @decide (bO l ids (k:Int)) (Classical.propDecidable _)).map fun k:Nat=>(k:Int)
def Mk(vis:List Bool)(k:Int):Prop:=∃n:Nat,k=n∧vis[n]? =some true
def lO(vis:List Bool)(i:Nat):List Int:=((List.range i).filter fun k:Nat=>(vis[k]?).getD false).map fun k:Nat=>(k:Int)
theorem G8{vis:List Bool}{i:Nat}(h:i<vis.length):lO vis (i+1)=lO vis i++(if vis[i]=true then[(i:Int)]else[]):=by
 unfold lO;rw[List.range_succ,List.filter_append,List.map_append];congr 1
 cases a:vis[i]<;>simp[List.getElem?_eq_getElem h,a]
theorem G6{vis:List Bool}{i:Nat}:(lO vis i).length≤i:=by
 unfold lO;rw[List.length_map];exact Nat.le_trans (List.length_filter_le _ _) (by simp)
theorem G7{l:List Ob}{ids:List Int}{vis:List Bool}(hv:vis.length=l.length)(h:∀k,Mk vis k↔bO l ids k):lO vis l.length=aN l ids:=by
 unfold lO aN;congr 1
 refine List.filter_congr fun k c=>?_;rw[List.mem_range]at c;have:=h k;rw[Bool.eq_iff_iff,@decide_eq_true_iff _ (Classical.propDecidable _),←this];unfold Mk;constructor
 ·intro a;refine⟨k,rfl,?_⟩;rw[List.getElem?_eq_getElem (by omega)]at a⊢;simpa using a
 ·rintro⟨n,a,b⟩;obtain rfl:k=n:=by omega
  rw[b];rfl
theorem Mk.set{vis:List Bool}{n:Nat}{k:Int}(hn:n<vis.length):Mk (vis.set n true) k↔Mk vis k∨k=n:=by
 unfold Mk;constructor
 ·rintro⟨m,rfl,h⟩;by_cases e:n=m
  ·subst e;exact .inr rfl
  ·rw[List.getElem?_set_ne e]at h;exact .inl ⟨m,rfl,h⟩
 ·rintro(⟨m,rfl,h⟩|rfl)
  ·by_cases e:n=m
   ·subst e;exact⟨n,rfl,by rw[List.getElem?_set_self hn]⟩
   ·exact⟨m,rfl,by rw[List.getElem?_set_ne e];exact h⟩
  ·exact⟨n,rfl,by rw[List.getElem?_set_self hn]⟩
theorem count_set:∀{vis:List Bool} {n:Nat},vis[n]? =some false→(vis.set n true).count true=vis.count true+1
 |b::v,0,h=>by simp at h;subst h;simp
 |b::v,n+1,h=>by
  simp at h;rw[List.set_cons_succ,List.count_cons,List.count_cons,count_set h];omega
theorem bO.of_closed{l:List Ob}{ids:List Int}{vis:List Bool}(h1:∀k∈ids,¬kindOf l k=0→Mk vis k)(h2:∀j,Mk vis j→∀k∈cL l j,Mk vis k){k:Int}(h:bO l ids k):Mk vis k:=by
 induction h with
 |base h a=>exact h1 _ h a
 |step _ a ih=>exact h2 _ ih _ a
theorem Ab{n:Nat}{k:Int}:¬Mk (List.replicate n false) k:=by
 rintro⟨m,rfl,h⟩;rw[List.getElem?_replicate]at h;split at h<;>cases h
end Go.Nest
end
section
namespace Go.Nest
open Go Go.AM
theorem ai.nodup{l:List Ob}(h:ai l):l.Nodup:=by
 induction h with
 |nil=>exact List.nodup_nil
 |snoc _ _ _ d _ ih=>
  rw[List.nodup_append];exact⟨ih,by simp,fun a c b hb=>by rw[List.mem_singleton]at hb;subst hb;intro e;subst e;exact d c⟩
theorem zo{l m:List Ob}{o:Ob}(ho:kl o)(h:dR l o=true):dR (l++m) o=true:=by
 unfold dR at h⊢;rw[Bool.and_eq_true,Bool.and_eq_true,List.all_eq_true,List.all_eq_true]at h⊢;refine⟨fun e c=>?_,fun k d=>?_,?_⟩
 ·have a:=h.1 e c;have f:=ho.uT e c;rw[decide_eq_true_iff]at a⊢;rw[nM (by omega)];exact a
 ·have a:=h.2.1 k d;rw[decide_eq_true_iff]at a⊢;rw[nM (by omega)];exact a
 ·have a:=h.2.2;by_cases b:o.kind=3
  ·simp[b]at a⊢;rw[nM (by omega)];exact a
  ·simp[b]
theorem ai.obj{l:List Ob}(h:ai l):∀o∈l,bW o=0∧dR l o=true:=by
 induction h with
 |nil=>intro o a;cases a
 |snoc c a b _ _ ih=>
  intro u hu;rcases List.mem_append.1 hu with hu|hu
  ·exact⟨(ih u hu).1,zo (pt (ih u hu).1) (ih u hu).2⟩
  ·rw[List.mem_singleton]at hu;subst hu;exact⟨a,zo (pt a) b⟩
theorem Aw{l:List Ob}(h:ai l){k:Nat}(hk:k<l.length):ax l l[k]=((k:Int),0,l):=by
 obtain⟨b,c⟩:=h.obj _ (List.getElem_mem hk)
 have d := jk (p := fun x => decide (x = l[k])) hk (by
  rw[List.any_eq_false];intro x f a;rw[decide_eq_true_iff]at a;subst a;obtain⟨j,g,e⟩:=List.mem_take_iff_getElem.1 f;have:=(List.getElem_inj h.nodup).1 e;omega) (by simp)
 unfold ax;rw[if_neg (by simpa using b),if_neg (by simp[c]),if_pos (by omega),←d]
theorem iI{l:List Ob}{ids:List Int}(hl:ai l){k:Int}:k∈aN l ids↔bO l ids k:=by
 unfold aN;rw[List.mem_map];constructor
 ·rintro⟨n,a,rfl⟩;rw[List.mem_filter]at a;exact(@decide_eq_true_iff _ (Classical.propDecidable _)).1 a.2
 ·intro h;obtain⟨a,b⟩:=dh (h.kind hl);refine⟨k.toNat,List.mem_filter.2 ⟨by rw[List.mem_range];exact b,?_⟩,by omega⟩;rw[show((k.toNat:Nat):Int)=k by omega];exact(@decide_eq_true_iff _ (Classical.propDecidable _)).2 h
theorem rS{l:List Ob}{ids:List Int}:(aN l ids).Pairwise (· < ·):=by
 unfold aN;rw[List.pairwise_map];have:=(List.pairwise_lt_range (n:=l.length)).filter (fun k:Nat=> @decide (bO l ids (k:Int)) (Classical.propDecidable _));exact this.imp (fun h=>by omega)
theorem mK{l:List Ob}{ids:List Int}:(aN l ids).length≤l.length:=by
 unfold aN;rw[List.length_map];exact Nat.le_trans (List.length_filter_le _ _) (by simp)
end Go.Nest
end
section
namespace Go.Nest
open Go Go.AM Go.Proofs
open Go.Proofs.YtpechfcbnoggfaaGreatDoor (tab tabOk)
set_option maxRecDepth 4000
theorem GM:ae Tryz.prog 49 [] [] (Rt (.c (.ptr 0 0)) [.box [.rw 1],.row 6 Ob an []]):=by
 refine ak (n:=3) (n0:=0) tabOk Tryz.call49 Tryz.func49 ?_;intro hb;(conv=>whnf);exact rx [] [.same 0,.new]
theorem fc(l:List Ob)(hl:ai l)(id:Int):ae Tryz.prog 166 [.c (.bp [.bs 6 Ob an l]),.c (.int .i64 id)] [] (Rt (.aC [(true,an (aj l id)),(false,[.bool (decide (kindOf l id≠0))])]) []):=by
 refine ak (n:=19) (n0:=0) tabOk Tryz.call166 Tryz.func166 ?_;intro hb;skip;(conv=>whnf);refine cl [] [] (nN l id) ?_;repeat'((conv=>whnf);first|(refine dec (fun h=>?_) (fun h=>?_)<;>try contradiction)|fail)
 ·rw[hl.lD h,h];(conv=>whnf);exact rx [] []
 ·obtain⟨d,b⟩:=dh h;have a:=hl.get h;rw[show decide (kindOf l id≠0)=true from decide_eq_true h];rw[ku d b]at a⊢;(conv=>whnf);refine⟨id.toNat,l[id.toNat],by omega,List.getElem?_eq_getElem b,?_⟩;skip;(conv=>whnf);refine cl [] [] (Al l[id.toNat] (by have:=a.bytes;omega) (by have:=a.entries;omega) (by have:=a.parents;omega)) ?_;(conv=>whnf);exact rx [] []
theorem Er{es:List aD}{i:Nat}(h:i<es.length):((es.take (i+1)).filter fun e=>decide (e.mode≠3)).map (·.id)=((es.take i).filter fun e=>decide (e.mode≠3)).map (·.id)++(if es[i].mode=3 then[]else[es[i].id]):=by
 rw[List.take_succ_eq_append_getElem h,List.filter_append,List.map_append];congr 1
 by_cases a:es[i].mode=3<;>simp[a]
theorem yc{es:List aD}{i:Nat}(h:es.length≤60):(((es.take i).filter fun e=>decide (e.mode≠3)).map (·.id)).length≤60:=by
 rw[List.length_map];refine Nat.le_trans (List.length_filter_le _ _) ?_;rw[List.length_take];omega
set_option maxHeartbeats 1000000 in
theorem GO(l:List Ob)(hl:ai l)(id:Int):ae Tryz.prog 104 [.c (.bp [.bs 6 Ob an l]),.c (.int .i64 id)] [] (Rt (.c (.rw 0)) [.row 1 Int encI (cL l id)]):=by
 refine iX (n:=46) (n0:=0) tabOk Tryz.call104 Tryz.func104 ?_;intro hb;refine XM.seq ?_;skip;refine XM.seq ?_;skip;(conv=>whnf);refine cl [] [] (fc l hl id) ?_;skip;refine XM.seq ?_;repeat'((conv=>whnf);first|(refine aw (fun h=>?_) (fun h=>?_)<;>try contradiction)|fail)
 ·(conv=>whnf);rw[show cL l id=[]by unfold cL;rw[hl.lD (Decidable.not_not.1 h)];rfl];exact rx [] [.new]
 have d:=hl.get h;have k:=d.entries;refine XM.seq ?_;skip;refine XM.join (ι:=Unit) (fun _=>⟨[(5,.c (.ptr 0 0)),(7,.c (.rw 1))],[.box (an (aj l id)),.row 1 Int encI (((aj l id).entries.filter fun e=>decide (e.mode≠3)).map (·.id))]⟩) (fun _=>True) ?_ (fun _ _=>?_)
 ·(conv=>whnf)
  refine lp Nat (fun i => ⟨[(5,.c (.ptr 0 0)),(7,.c (.rw 1)),(19,.c (.bs 4 aD cB (aj l id).entries)),(20,.c (.int .i64 (aj l id).entries.length)),(21,.c (.int .i64 i))],
   [.box (an (aj l id)),.row 1 Int encI ((((aj l id).entries.take i).filter fun e=>decide (e.mode≠3)).map (·.id))]⟩) (fun i=>i≤(aj l id).entries.length∧True) (fun i=>(aj l id).entries.length-i) 0 [] [.same 0,.new] ?_ ?_ (fun i m=>?_)
  ·exact⟨Nat.zero_le _,trivial⟩
  ·repeat' first|exact trivial|exact rfl|refine And.intro ?_ ?_
  (conv=>whnf);refine dec (fun g=>?_) (fun g=>?_)
  ·have a:i<(aj l id).entries.length:=by omega
   have f:=Er a;have b:=yc (i:=i) d.entries;repeat'((conv=>whnf);first|(refine aw (fun h=>?_) (fun h=>?_)<;>try contradiction)|refine⟨i64 (by omega) (by omega),?_⟩|refine⟨_,_,rfl,List.getElem?_eq_getElem (by omega),?_⟩|fail)
   ·rw[if_neg h]at f;(conv=>whnf);refine⟨[(aj l id).entries[i].id],rfl,?_⟩;(conv=>whnf);refine⟨_,_,rfl,rfl,(by simp only[List.length_append,List.length_cons,List.length_nil];omega),?_⟩;repeat'((conv=>whnf);refine I6 ?_)
    refine ag (i+1) [] [.same 0,.same 4] ⟨a,trivial⟩ (by simp only[];omega) ?_;repeat' first|exact trivial|exact rfl|refine And.intro ?_ ?_
    rw[f];exact rfl
   ·rw[if_pos h,List.append_nil]at f;skip;refine ag (i+1) [] [.same 0,.same 1] ⟨a,trivial⟩ (by simp only[];omega) ?_;repeat' first|exact trivial|exact rfl|refine And.intro ?_ ?_
    rw[f];exact rfl
  ·have:(aj l id).entries.take i=(aj l id).entries:=List.take_of_length_le (by omega);rw[this];(conv=>whnf);refine⟨(),trivial,[],[.same 0,.same 1],?_⟩;repeat' first|exact trivial|exact rfl|refine And.intro ?_ ?_
 have b:=yc (i:=(aj l id).entries.length) d.entries;rw[List.take_length]at b;have o:=d.parents;refine XM.join (ι:=Unit) (fun _=>⟨[(5,.c (.ptr 0 0)),(7,.c (.rw 1))],[.box (an (aj l id)),.row 1 Int encI (((aj l id).entries.filter fun e=>decide (e.mode≠3)).map (·.id)++(if(aj l id).kind=3 then[(aj l id).tree]else[]))]⟩) (fun _=>True) ?_ (fun _ _=>?_)
 ·repeat'((conv=>whnf);first|(refine dec (fun h=>?_) (fun h=>?_)<;>try contradiction)|fail)
  ·(conv=>whnf);refine⟨[(aj l id).tree],rfl,?_⟩;(conv=>whnf);refine⟨_,_,rfl,rfl,(by simp only[List.length_append,List.length_cons,List.length_nil];omega),?_⟩;(conv=>whnf);rw[if_pos ‹(aj l id).kind=3›];refine⟨(),trivial,[],[.same 0,.same 3],?_⟩;repeat' first|exact trivial|exact rfl|refine And.intro ?_ ?_
  ·(conv=>whnf);rw[if_neg ‹¬(aj l id).kind=3›,List.append_nil];refine⟨(),trivial,[],[.same 0,.same 1],?_⟩;repeat' first|exact trivial|exact rfl|refine And.intro ?_ ?_
 have j:(if(aj l id).kind=3 then[(aj l id).tree]else[]).length≤1:=by split<;>simp
 refine XM.of ?_;(conv=>whnf);refine⟨_,_,rfl,rfl,(by simp only[List.length_append,List.length_cons,List.length_nil];omega),?_⟩;(conv=>whnf);rw[show cL l id=_ from(List.append_assoc _ _ _).symm];exact rx [] [.same 2]
end Go.Nest
end
section
namespace Go.Nest
open Go Go.AM Go.Proofs
open Go.Proofs.YtpechfcbnoggfaaGreatDoor (tab tabOk)
set_option maxRecDepth 4000
theorem Ht(x o:Ob):ae Tryz.prog 273 [.st (gB x),.c (.bp (gB o))] [] (Rt (.c (.bool (decide (x=o)))) []):=by
 refine ak (n:=7) (n0:=0) tabOk Tryz.call273 Tryz.func273 ?_;intro hb;(conv=>whnf);refine cl [] [] (Iq x o) ?_;repeat'((conv=>whnf);first|refine aE ?_|fail)
 rfl
theorem Fp(l:List Ob)(o:Ob):ae Tryz.prog 272 [.c (.bs 6 Ob an l),.c (.fn 273 [.bp (gB o)])] [] (Rt (.c (.int .i64 (bF (fun x=>decide (x=o)) l))) []):=by
 refine ak (n:=19) (n0:=0) tabOk Tryz.call272 Tryz.func272 ?_;intro hb;have hb:l.length≤9223372036854775807:=hb.1.1;(conv=>whnf);refine lp Nat (fun i=>⟨[(0,.c (.bs 6 Ob an l)),(1,.c (.fn 273 [.bp (gB o)])),(7,.c (.int .i64 l.length)),(8,.c (.int .i64 i))],[]⟩) (fun i=>i≤l.length∧(l.take i).any (fun x=>decide (x=o))=false) (fun i=>l.length-i) 0 [] [] ?_ ?_ (fun i b=>?_)
 ·simp
 ·repeat' first|exact trivial|exact rfl|refine And.intro ?_ ?_
 (conv=>whnf);refine dec (fun d=>?_) (fun d=>?_)
 ·have a:i<l.length:=by omega
  repeat'((conv=>whnf);first|refine⟨_,_,rfl,List.getElem?_eq_getElem (by omega),?_⟩|fail)
  (conv=>whnf);refine cl [] [] (Ht l[i] o) ?_;repeat'((conv=>whnf);first|(refine dec (fun h=>?_) (fun h=>?_)<;>try contradiction)|refine⟨i64 (by omega) (by omega),?_⟩|refine aG ?_|fail)
  ·exact jk a b.2 (by simpa using h)
  ·refine ag (i+1) [] [] ⟨a,gA a b.2 (by simpa using h)⟩ (by simp only[];omega) ?_;repeat' first|exact trivial|exact rfl|refine And.intro ?_ ?_
 ·repeat'((conv=>whnf);first|refine aG ?_|fail)
  have:=b.2;rw[List.take_of_length_le (by omega)]at this;exact jT this
theorem pC(l:List Ob)(o:Ob)(hl:l.length≤600):ae Tryz.prog 203 [.c (.ptr 0 0),.st (gB o)] [.box [.rw 1],.row 6 Ob an l] (Rt (.aC [(false,[.int .i64 (ax l o).1]),(false,[.int .i64 (ax l o).2.1])]) [.box [.rw 2],.dead,.row 6 Ob an (ax l o).2.2]):=by
 refine iX (n:=49) (n0:=2) tabOk Tryz.call203 Tryz.func203 ?_;intro hb;refine XM.seq ?_;skip;refine XM.seq ?_;(conv=>whnf);refine cl [] [] (CR o) ?_;repeat'((conv=>whnf);first|(refine aw (fun h=>?_) (fun h=>?_)<;>try contradiction)|fail)
 ·have a:ax l o=(0,bW o,l):=by unfold ax;rw[if_pos h]
  rw[a];(conv=>whnf);exact rx [] [.same 0,.same 1,.same 1]
 have b:bW o=0:=by simpa using h
 have e:=pt b;refine XM.seq ?_;skip;(conv=>whnf);refine cl [] [] (FZ l o e.uT) ?_;repeat'((conv=>whnf);first|refine cO (fun h=>?_) (fun h=>?_)|fail)
 ·have a:ax l o=(0,14,l):=by unfold ax;rw[if_neg (by simpa using b),if_pos h]
  rw[a];(conv=>whnf);exact rx [] [.same 0,.same 1,.same 1]
 have f:=h;refine XM.seq ?_;skip;(conv=>whnf);refine cl [] [] (Fp l o) ?_;repeat'((conv=>whnf);first|(refine dec (fun h=>?_) (fun h=>?_)<;>try contradiction)|fail)
 ·have d:=h;have a:ax l o=(bF (fun x=>decide (x=o)) l,0,l):=by unfold ax;rw[if_neg (by simpa using b),if_neg (by simp[f]),if_pos d]
  rw[a];(conv=>whnf);exact rx [] [.same 0,.same 1,.same 1]
 have d:=h;refine XM.seq ?_;repeat'((conv=>whnf);first|(refine dec (fun h=>?_) (fun h=>?_)<;>try contradiction)|fail)
 ·have g:=h;have a:ax l o=(0,15,l):=by unfold ax;rw[if_neg (by simpa using b),if_neg (by simp[f]),if_neg d,if_pos (by omega)]
  rw[a];(conv=>whnf);exact rx [] [.same 0,.same 1,.same 1]
 have g:=h;have a:ax l o=(((l++[o]).length:Int)-1,0,l++[o]):=by unfold ax;rw[if_neg (by simpa using b),if_neg (by simp[f]),if_neg d,if_neg (by omega)];simp
 rw[a];refine XM.of ?_;(conv=>whnf);refine⟨false,.grow,(.l [0,1,2,3,4,5,6,7,8,9,10,11]),by kernel_rfl,.inl ?_⟩;skip;(conv=>whnf);refine cl [] [] (Al o (by have:=e.bytes;omega) (by have:=e.entries;omega) (by have:=e.parents;omega)) ?_;(conv=>whnf);refine⟨[o],rfl,?_⟩;(conv=>whnf);refine⟨_,_,rfl,rfl,(by simp only[List.length_append,List.length_cons,List.length_nil];omega),?_⟩;have i:(l++[o]).length≤600:=by rw[List.length_append,List.length_singleton];omega
 repeat'((conv=>whnf);refine I6 ?_)
 (conv=>whnf);exact rx [] [.same 0,.same 1,.same 4]
end Go.Nest
end
section
namespace Go.Nest
open Go Go.AM Go.Proofs
open Go.Proofs.YtpechfcbnoggfaaGreatDoor (tab tabOk)
set_option maxRecDepth 4000
structure gP(l:List Ob)(ids:List Int)(vis:List Bool)(todo:List Int):Prop where
 len:vis.length=l.length
 sound:∀k,Mk vis k→bO l ids k
 td:∀k∈todo,¬kindOf l k=0→bO l ids k
 base:∀k∈ids,¬kindOf l k=0→k∈todo∨Mk vis k
 clos:∀j,Mk vis j→∀k∈cL l j,k∈todo∨Mk vis k
 size:todo.length≤ids.length+64*vis.count true
def jf(todo:List Int):List Int:=(todo.drop 0).take (todo.length-1-0)
theorem BA{todo:List Int}(h:0<todo.length):todo=jf todo++[todo[todo.length-1]'(by omega)]:=by
 unfold jf;rw[List.drop_zero,Nat.sub_zero];have:=List.take_succ_eq_append_getElem (l:=todo) (i:=todo.length-1) (by omega);rw[←this,Nat.sub_add_cancel (by omega),List.take_length]
theorem oL{todo:List Int}:(jf todo).length=todo.length-1:=by unfold jf;simp
theorem gP.skip{l:List Ob}(hl:ai l){ids:List Int}{vis:List Bool}{todo:List Int}(h:gP l ids vis todo)(f:0<todo.length){id:Int}(hid:id=todo[todo.length-1]'(by omega))(hk:kindOf l id=0∨Mk vis id):
  gP l ids vis (jf todo):=by
 have e:=BA f;rw[←hid]at e;refine⟨h.len,h.sound,fun k b=>h.td k (by rw[e];exact List.mem_append_left _ b),fun k a c=>?_,fun j d k a=>?_,?_⟩
 ·rcases h.base k a c with h3|h3
  ·rw[e,List.mem_append,List.mem_singleton]at h3;rcases h3 with h3|h3
   ·exact .inl h3
   ·subst h3;exact .inr (hk.resolve_left c)
  ·exact .inr h3
 ·rcases h.clos j d k a with h3|h3
  ·rw[e,List.mem_append,List.mem_singleton]at h3;rcases h3 with h3|h3
   ·exact .inl h3
   ·subst h3;exact .inr (hk.resolve_left (uW hl a).1)
  ·exact .inr h3
 ·have:=h.size;rw[oL];omega
theorem gP.visit{l:List Ob}(hl:ai l){ids:List Int}{vis:List Bool}{todo:List Int}(h:gP l ids vis todo)(m:0<todo.length){id:Int}(hid:id=todo[todo.length-1]'(by omega))(hk:¬kindOf l id=0)(hm:vis[id.toNat]? =some false):
  gP l ids (vis.set id.toNat true) (jf todo++cL l id):=by
 obtain⟨n,g⟩:=dh hk;have e:=BA m;rw[←hid]at e;have b:bO l ids id:=h.td id (by rw[e];simp) hk
 have a:∀k,Mk (vis.set id.toNat true) k↔Mk vis k∨k=id:=fun k=>by
  rw[Mk.set (by rw[h.len];exact g)];rw[show((id.toNat:Nat):Int)=id by omega]
 refine⟨by rw[List.length_set,h.len],fun k c=>?_,fun k c f=>?_,fun k d f=>?_,fun j i k d=>?_,?_⟩
 ·rcases(a k).1 c with h3|rfl
  ·exact h.sound k h3
  ·exact b
 ·rcases List.mem_append.1 c with h3|h3
  ·exact h.td k (by rw[e];exact List.mem_append_left _ h3) f
  ·exact .step b h3
 ·rw[a,List.mem_append];rcases h.base k d f with h3|h3
  ·rw[e,List.mem_append,List.mem_singleton]at h3;rcases h3 with h3|h3
   ·exact .inl (.inl h3)
   ·exact .inr (.inr h3)
  ·exact .inr (.inl h3)
 ·rw[a,List.mem_append];rcases(a j).1 i with h3|rfl
  ·rcases h.clos j h3 k d with h3|h3
   ·rw[e,List.mem_append,List.mem_singleton]at h3;rcases h3 with h3|h3
    ·exact .inl (.inl h3)
    ·exact .inr (.inr h3)
   ·exact .inr (.inl h3)
  ·exact .inl (.inr d)
 ·have:=h.size;have f:=z8 hl id;rw[List.length_append,oL,count_set hm];omega
theorem gP.start{l:List Ob}{ids:List Int}:gP l ids (List.replicate l.length false) ids:=
 ⟨by simp,fun k h=>(Ab h).elim,fun k a b=>.base a b,fun k a _=>.inl a,fun j h=>(Ab h).elim,by omega⟩
theorem gP.stop{l:List Ob}{ids:List Int}{vis:List Bool}{todo:List Int}(h:gP l ids vis todo)(d:todo.length=0):vis.length=l.length∧∀k,Mk vis k↔bO l ids k:=by
 have:todo=[]:=List.eq_nil_of_length_eq_zero d;subst this;exact⟨h.len,fun k=>⟨h.sound k,bO.of_closed (fun k a b=>(h.base k a b).resolve_left (by simp)) (fun j c k a=>(h.clos j c k a).resolve_left (by simp))⟩⟩
theorem lR(l:List Ob)(hl:ai l)(ids:List Int)(hi:ids.length≤1000000):ae Tryz.prog 40 [.c (.bp [.bs 6 Ob an l]),.c (.bs 1 Int encI ids)] [] (Rt (.c (.rw 0)) [.row 1 Int encI (aN l ids)]):=by
 refine iX (n:=66) (n0:=0) tabOk Tryz.call40 Tryz.func40 ?_;intro hb;have t:=hl.len;refine XM.seq ?_;skip;refine XM.seq ?_;(conv=>whnf);refine⟨l.length,false,⟨rfl,rfl⟩,rfl,by simp only[];omega,?_⟩;skip;refine XM.seq ?_;(conv=>whnf);refine cl [] [] (qu ids (by omega)) ?_;skip;refine XM.join (ι:=List Bool) (fun a=>⟨[(5,.c (.rw 0))],[.row 1 Bool af a]⟩) (fun a=>a.length=l.length∧∀k,Mk a k↔bO l ids k) ?_ (fun a g=>?_)
 ·(conv=>whnf);refine lp (List Bool×List Int) (fun|(a,b)=>⟨[(0,.c (.bp [.bs 6 Ob an l])),(5,.c (.rw 0)),(6,.c (.rw 1))],[.row 1 Bool af a,.row 1 Int encI b]⟩) (fun x=>gP l ids x.1 x.2∧True) (fun x=>65*(l.length-x.1.count true)+x.2.length) (List.replicate l.length false,ids) [] [.same 0,.same 1] ?_ ?_ (fun x d=>?_)
  ·exact⟨gP.start,trivial⟩
  ·repeat' first|exact trivial|exact rfl|refine And.intro ?_ ?_
  obtain⟨a,b⟩:=x;obtain⟨d,_⟩:=d;dsimp only at d;have f:=d.len;have F:=d.size;have z:a.count true≤a.length:=List.count_le_length;(conv=>whnf);refine dec (fun m=>?_) (fun m=>?_)
  ·have v:0<b.length:=by omega
   have y:((b.drop 0).take (b.length-1-0)).length=b.length-1:=oL;(conv=>whnf);refine⟨i64 (by omega) (by omega),?_⟩;(conv=>whnf);refine⟨b.length-1,⟨by omega,by omega⟩,?_⟩;(conv=>whnf);refine⟨b[b.length-1],List.getElem?_eq_getElem (by omega),?_⟩;generalize hid:b[b.length-1]'(by omega)=id;(conv=>whnf);refine⟨i64 (by omega) (by omega),?_⟩;(conv=>whnf);refine⟨0,b.length-1,rfl,by omega,by omega,?_⟩;(conv=>whnf);refine cl [] [] (nN l id) ?_;(conv=>whnf);have D:=z8 hl id;have skip:kindOf l id=0∨Mk a id→65*(l.length-a.count true)+(jf b).length<65*(l.length-a.count true)+b.length∧gP l ids a (jf b):=fun h=>⟨by rw[oL];omega,d.skip hl v hid.symm h⟩;refine dec (fun w=>?_) (fun w=>?_)
   ·obtain⟨I,J⟩:=dh (l:=l) (id:=id) (by omega);(conv=>whnf);refine⟨id.toNat,⟨by omega,by omega⟩,?_⟩;(conv=>whnf);refine⟨a[id.toNat],List.getElem?_eq_getElem (by omega),?_⟩;(conv=>whnf);refine cO (fun o=>?_) (fun o=>?_)
    ·have u:a[id.toNat]? =some false:=by rw[List.getElem?_eq_getElem (by omega),o]
     have g:=d.visit hl v hid.symm (by omega) u;have H:=count_set u;have p:(a.set id.toNat true).count true≤(a.set id.toNat true).length:=List.count_le_length;rw[List.length_set]at p;(conv=>whnf);refine⟨id.toNat,⟨by omega,by omega⟩,?_⟩;(conv=>whnf);refine⟨_,true,List.getElem?_eq_getElem (by omega),⟨by decide,rfl⟩,?_⟩;(conv=>whnf);refine cl [] [] (GO l hl id) ?_;(conv=>whnf);refine⟨_,_,rfl,rfl,(by simp only[List.length_append,List.length_cons,List.length_nil];omega),?_⟩;(conv=>whnf);refine ag (a.set id.toNat true,jf b++cL l id) [] [.same 0,.same 3] ⟨g,trivial⟩ (by dsimp only;rw[List.length_append,oL];omega) ?_;repeat' first|exact trivial|exact rfl|refine And.intro ?_ ?_
    ·(conv=>whnf);obtain⟨q,r⟩:=skip (.inr ⟨id.toNat,by omega,by rw[List.getElem?_eq_getElem (by omega),o]⟩);refine ag (a,jf b) [] [.same 0,.cut 1 1 0 (b.length-1-0)] ⟨r,trivial⟩ q ?_;repeat' first|exact trivial|exact rfl|refine And.intro ?_ ?_
     omega
   ·(conv=>whnf)
    have:kindOf l id=0:=by
     by_cases s:kindOf l id=0
     ·exact s
     ·have:=(hl.get s).k1;rw[eP]at this;omega
    obtain⟨q,r⟩:=skip (.inl this);refine ag (a,jf b) [] [.same 0,.cut 1 1 0 (b.length-1-0)] ⟨r,trivial⟩ q ?_;repeat' first|exact trivial|exact rfl|refine And.intro ?_ ?_
    omega
  ·(conv=>whnf);refine⟨a,d.stop (by omega),[],[.same 0],?_⟩;repeat' first|exact trivial|exact rfl|refine And.intro ?_ ?_
 obtain⟨f,g⟩:=g;rw[←G7 f g];refine XM.seq ?_;skip;refine XM.seq ?_;(conv=>whnf);refine lp Nat (fun i=>⟨[(8,.c (.rw 1)),(52,.c (.rw 0)),(53,.c (.int .i64 a.length)),(54,.c (.int .i64 i))],[.row 1 Bool af a,.row 1 Int encI (lO a i)]⟩) (fun i=>i≤a.length∧True) (fun i=>a.length-i) 0 [] [.same 0,.new] ?_ ?_ (fun i hi=>?_)
 ·simp
 ·repeat' first|exact trivial|exact rfl|refine And.intro ?_ ?_
 (conv=>whnf);refine dec (fun m=>?_) (fun m=>?_)
 ·have e:i<a.length:=by omega
  have j:=G8 e;have E:=G6 (vis:=a) (i:=i);repeat'((conv=>whnf);first|refine aL (fun h=>?_) (fun h=>?_)|refine⟨i64 (by omega) (by omega),?_⟩|refine⟨_,⟨rfl,by omega⟩,?_⟩|refine⟨_,List.getElem?_eq_getElem (by omega),?_⟩|fail)
  ·rw[if_pos h]at j;(conv=>whnf);refine⟨[(i:Int)],rfl,?_⟩;(conv=>whnf);refine⟨_,_,rfl,rfl,(by simp only[List.length_append,List.length_cons,List.length_nil];omega),?_⟩;repeat'((conv=>whnf);refine I6 ?_)
   refine ag (i+1) [] [.same 0,.same 3] ⟨e,trivial⟩ (by simp only[];omega) ?_;repeat' first|exact trivial|exact rfl|refine And.intro ?_ ?_
   rw[j];exact rfl
  ·rw[if_neg (by simp[h]),List.append_nil]at j;skip;refine ag (i+1) [] [.same 0,.same 1] ⟨e,trivial⟩ (by simp only[];omega) ?_;repeat' first|exact trivial|exact rfl|refine And.intro ?_ ?_
   rw[j];exact rfl
 ·obtain rfl:i=a.length:=by omega
  rw[←f];(conv=>whnf);refine XM.of ?_;(conv=>whnf);exact rx [] [.same 1]
end Go.Nest
end
section
namespace Go.Nest
open Go Go.AM
def cW(l:List Int)(k:Int):Bool:=l.any fun x=>decide (x=k)
theorem ff{l:List Int}{k:Int}:cW l k=true↔k∈l:=by
 unfold cW;rw[List.any_eq_true];constructor
 ·rintro⟨x,a,e⟩;have e:x=k:=by simpa using e
  rw[←e];exact a
 ·intro h;exact⟨k,h,by simp⟩
inductive dD(L:List Ob):Int→Int→Prop
 |refl (id:Int):dD L id id
 |step {id j k:Int} (h:j∈(aj L id).parents) (h2:dD L j k):dD L id k
def qX:Nat→List Ob→Int→Int→Bool
 |0,_,_,_=>false
 |n+1,L,id,k=>decide (k=id)||(aj L id).parents.any fun p=>qX n L p k
theorem dD.next{L:List Ob}{id j k:Int}(h:dD L id j)(hk:k∈(aj L j).parents):dD L id k:=by
 induction h with
 |refl id=>exact .step hk (.refl k)
 |step h _ ih=>exact .step h (ih hk)
theorem Hh{L:List Ob}{j k:Int}(h:k∈(aj L j).parents):k∈cL L j:=by
 unfold cL;rw[List.mem_append,List.mem_append];exact .inr (.inr h)
theorem rM{L:List Ob}(d:ai L){j k:Int}(h:k∈(aj L j).parents):0≤k∧k<j∧k.toNat<L.length:=by
 obtain⟨a,b⟩:=uW d (Hh h);obtain⟨e,c⟩:=dh a;exact⟨by omega,b,c⟩
theorem ve{L:List Ob}(c:ai L){j k:Int}(hj:kindOf L j=3)(h:k∈(aj L j).parents):kindOf L k=3:=by
 obtain⟨a,b⟩:=dh (l:=L) (id:=j) (by omega);have:=(c.obj (aj L j) (by rw[ku a b];exact List.getElem_mem _)).2;unfold dR at this;rw[Bool.and_eq_true,Bool.and_eq_true,List.all_eq_true,List.all_eq_true]at this;simpa using this.2.1 k h
theorem dD.kind{L:List Ob}(a:ai L){id k:Int}(h:dD L id k)(hi:kindOf L id=3):kindOf L k=3:=by
 induction h with
 |refl=>exact hi
 |step h _ ih=>exact ih (ve a hi h)
theorem dD.le{L:List Ob}(a:ai L){id k:Int}(h:dD L id k):k≤id:=by
 induction h with
 |refl=>exact Int.le_refl _
 |step h _ ih=>have:=(rM a h).2.1;omega
theorem qY{L:List Ob}(b:ai L):∀(n:Nat) (id k:Int),id.toNat<n→(qX n L id k=true↔dD L id k)
 |0,_,_,h=>absurd h (by omega)
 |n+1,id,k,h=>by
  unfold qX;rw[Bool.or_eq_true,decide_eq_true_iff,List.any_eq_true];constructor
  ·rintro(rfl|⟨p,a,c⟩)
   ·exact .refl _
   ·obtain⟨d,e,_⟩:=rM b a;exact .step a ((qY b n p k (by omega)).1 c)
  ·intro f;cases f with
   |refl=>exact .inl rfl
   |step a c=>
    obtain⟨d,e,_⟩:=rM b a;exact .inr ⟨_,a,(qY b n _ k (by omega)).2 c⟩
def aW(L:List Ob)(id:Int):List Int:=((List.range L.length).filter fun k:Nat=>qX (id.toNat+1) L id (k:Int)).map fun k:Nat=>(k:Int)
theorem kG{L:List Ob}(b:ai L){id k:Int}(hi:kindOf L id=3):k∈aW L id↔dD L id k:=by
 unfold aW;rw[List.mem_map];constructor
 ·rintro⟨n,a,rfl⟩;rw[List.mem_filter]at a;exact(qY b _ id n (Nat.lt_succ_self _)).1 a.2
 ·intro h;have d:=h.kind b hi;obtain⟨a,c⟩:=dh (l:=L) (id:=k) (by omega);refine⟨k.toNat,List.mem_filter.2 ⟨by rw[List.mem_range];exact c,?_⟩,by omega⟩;rw[show((k.toNat:Nat):Int)=k by omega];exact(qY b _ id k (Nat.lt_succ_self _)).2 h
theorem qc{L:List Ob}{id:Int}:(aW L id).Pairwise (· < ·):=by
 unfold aW;rw[List.pairwise_map];exact((List.pairwise_lt_range (n:=L.length)).filter _).imp (fun h=>by omega)
theorem qb{L:List Ob}{id:Int}:(aW L id).length≤L.length:=by
 unfold aW;rw[List.length_map];exact Nat.le_trans (List.length_filter_le _ _) (by simp)
theorem IF{L:List Ob}(h:ai L){id:Int}(hi:kindOf L id=3){out:List Int}(hn:out.Nodup)(hm:∀k,k∈out↔dD L id k):(out.mergeSort fun x y=>decide (x≤y))=aW L id:=by
 have d:=List.mergeSort_perm out fun x y=>decide (x≤y);have i:=List.pairwise_mergeSort (le:=fun x y:Int=>decide (x≤y)) (fun a b c f g=>by simp at*;omega) (fun a b=>by simp;omega) out;refine pE ?_ qc fun x=>by rw[d.mem_iff,hm,kG h hi]
 have e:(out.mergeSort fun x y=>decide (x≤y)).Nodup:=d.nodup_iff.2 hn;refine(i.and e).imp fun{x y} ⟨f,g⟩=>?_;have:x≤y:=by simpa using f
 omega
def bX(L:List Ob)(id:Int):List Int×Int:=if kindOf L id=3 then(aW L id,0)else([],9)
def eQ(L:List Ob)(a b:Int):Bool:=cW (bX L b).1 a
def l8(L:List Ob)(a b:Int):List Int:=(aW L a).filter fun k=>cW (aW L b) k
def BB(L:List Ob)(c:List Int):List Int:=c.filter fun k=> !c.any fun m=>decide (m≠k)&&eQ L k m
def eJ(L:List Ob)(a b:Int):List Int×Int:=if kindOf L a≠3 then([],9)else if kindOf L b≠3 then([],9)else(BB L (l8 L a b),0)
end Go.Nest
end
