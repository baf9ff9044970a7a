import Derived.Test.YtpechfcbnoggfaaGreatDoorAmH
import Derived.Test.YtpechfcbnoggfaaGreatDoorProg
import Derived.KernelRfl
set_option maxHeartbeats 2000000
set_option linter.unusedVariables false
set_option linter.unusedSimpArgs false
open Bool renaming and_eq_true->ad,eq_false_iff->b2,eq_iff_iff->ce
open Classical renaming propDecidable->Y
open Decidable renaming not_not->cr
open List renaming getElem?_eq_getElem->M,length_append->N,length_eq_zero_iff->O,take_succ_eq_append_getElem->P,mem_append->Q,mem_singleton->R,take_of_length_le->S,length_cons->T,length_nil->U,all_eq_true->W,getElem_mem->Z,length_filter_le->ac,any_eq_false->al,mem_append_left->am,length_map->ap,mem_filter->ar,findIdx?_eq_some_iff_getElem->a0,eq_nil_of_length_eq_zero->a1,mem_take_iff_getElem->a2,findIdx?_eq_none_iff->a3,getElem?_append_left->a4,any_eq_true->a6,append_nil->bb,getElem?_set_self->be,pairwise_lt_range->bh,getElem?_eq_none->bi,length_singleton->bj,mem_range->bk,replicate->bl,getElem?_set_ne->bn,count_le_length->br,mem_map->b0,filter_append->b1,nodup_append->b3,pairwise_map->b4,take_length->cb,range->cf,map_append->ch,count_cons->ci,length_set->co
open Nat renaming beq->a5,le_trans->a9,lt_succ_self->cd,blt->cp,zero_le->cq
section
namespace Go.Proofs.YtpechfcbnoggfaaGreatDoor
open Go Go.AM Go.Nest
def Ph:List (Nat×TD):=[
 (2,⟨1,false,8,(.int .i64),[.int .i64 0],false,Int,encI⟩),
 (3,⟨1,false,8,(.int .i64),[.int .i64 0],false,Int,encI⟩),
 (4,⟨1,false,1,.bool,[.bool false],false,Bool,ai⟩),
 (5,⟨1,false,1,(.int .u8),[.int .u8 0],false,UInt8,aN⟩),
 (9,⟨1,false,16,.str,[.str []],false,(List UInt8),encS⟩),
 (21,⟨1,false,4,(.int .i32),[.int .i32 0],false,Unit,(λ_=>[])⟩),
 (22,⟨1,false,24,(.sl 9),[.nil],false,(List (List UInt8)),(bM 1 encS)⟩),
 (25,⟨1,false,8,(.int .u64),[.int .u64 0],false,Unit,(λ_=>[])⟩),
 (29,⟨2,true,16,(.struct [(3,0),(3,1)]),[.int .i64 0,.int .i64 0],false,Unit,(λ_=>[])⟩),
 (33,⟨1,false,24,(.sl 5),[.nil],false,(List UInt8),(bM 1 aN)⟩),
 (39,⟨1,false,24,(.sl 44),[.nil],false,(List Unit),(bM 7 (λ_=>[]))⟩),
 (41,⟨1,false,8,.ptr,[.raw (.pointer none)],false,Unit,(λ_=>[])⟩),
 (44,⟨7,true,96,(.struct [(3,0),(3,1),(3,2),(9,3),(9,4),(9,5),(33,6)]),[.int .i64 0,.int .i64 0,.int .i64 0,.str [],.str [],.str [],.nil],false,Unit,(λ_=>[])⟩),
 (46,⟨3,true,40,(.struct [(3,0),(3,1),(22,2)]),[.int .i64 0,.int .i64 0,.nil],false,Unit,(λ_=>[])⟩),
 (50,⟨1,false,24,(.sl 126),[.nil],false,(List Dc),(bM 2 lT)⟩),
 (52,⟨1,false,24,(.sl 100),[.nil],false,(List Rf),(bM 2 bL)⟩),
 (55,⟨4,true,96,(.arr 4 50),[.nil,.nil,.nil,.nil],false,Unit,(λ_=>[])⟩),
 (56,⟨4,true,32,(.arr 4 3),[.int .i64 0,.int .i64 0,.int .i64 0,.int .i64 0],false,Unit,(λ_=>[])⟩),
 (57,⟨1,false,24,(.sl 3),[.nil],false,(List Int),(bM 1 encI)⟩),
 (58,⟨4,true,96,(.arr 4 57),[.nil,.nil,.nil,.nil],false,Unit,(λ_=>[])⟩),
 (61,⟨1,false,8,.ptr,[.raw (.pointer none)],false,Unit,(λ_=>[])⟩),
 (62,⟨1,false,8,.ptr,[.raw (.pointer none)],false,Unit,(λ_=>[])⟩),
 (63,⟨1,false,8,.ptr,[.raw (.pointer none)],false,Unit,(λ_=>[])⟩),
 (65,⟨2,true,16,(.struct [(62,0),(63,1)]),[.raw (.pointer none),.raw (.pointer none)],false,Unit,(λ_=>[])⟩),
 (66,⟨8,true,64,(.arr 4 65),[.raw (.pointer none),.raw (.pointer none),.raw (.pointer none),.raw (.pointer none),.raw (.pointer none),.raw (.pointer none),.raw (.pointer none),.raw (.pointer none)],false,Unit,(λ_=>[])⟩),
 (68,⟨9,true,72,(.struct [(61,0),(66,1)]),[.raw (.pointer none),.raw (.pointer none),.raw (.pointer none),.raw (.pointer none),.raw (.pointer none),.raw (.pointer none),.raw (.pointer none),.raw (.pointer none),.raw (.pointer none)],false,Unit,(λ_=>[])⟩),
 (71,⟨1,false,8,.ptr,[.raw (.pointer none)],false,Unit,(λ_=>[])⟩),
 (75,⟨1,false,24,(.sl 163),[.nil],false,(List Ch),(bM 9 iT)⟩),
 (78,⟨1,false,8,.ptr,[.raw (.pointer none)],false,Unit,(λ_=>[])⟩),
 (79,⟨1,false,8,.ptr,[.raw (.pointer none)],false,Unit,(λ_=>[])⟩),
 (80,⟨1,false,8,.ptr,[.raw (.pointer none)],false,Unit,(λ_=>[])⟩),
 (81,⟨4,true,32,(.arr 4 80),[.raw (.pointer none),.raw (.pointer none),.raw (.pointer none),.raw (.pointer none)],false,Unit,(λ_=>[])⟩),
 (82,⟨4,true,32,(.arr 4 78),[.raw (.pointer none),.raw (.pointer none),.raw (.pointer none),.raw (.pointer none)],false,Unit,(λ_=>[])⟩),
 (84,⟨9,true,72,(.struct [(79,0),(81,1),(82,5)]),[.raw (.pointer none),.raw (.pointer none),.raw (.pointer none),.raw (.pointer none),.raw (.pointer none),.raw (.pointer none),.raw (.pointer none),.raw (.pointer none),.raw (.pointer none)],false,Unit,(λ_=>[])⟩),
 (87,⟨1,false,24,(.sl 89),[.nil],false,(List (List Fi)),(bM 1 (bM 4 aq))⟩),
 (88,⟨4,true,96,(.arr 4 87),[.nil,.nil,.nil,.nil],false,Unit,(λ_=>[])⟩),
 (89,⟨1,false,24,(.sl 161),[.nil],false,(List Fi),(bM 4 aq)⟩),
 (94,⟨1,false,8,.ptr,[.raw (.pointer none)],false,Unit,(λ_=>[])⟩),
 (95,⟨1,false,24,(.sl 4),[.nil],false,(List Bool),(bM 1 ai)⟩),
 (96,⟨4,true,96,(.arr 4 95),[.nil,.nil,.nil,.nil],false,Unit,(λ_=>[])⟩),
 (98,⟨9,true,200,(.struct [(94,0),(96,1),(58,5)]),[.raw (.pointer none),.nil,.nil,.nil,.nil,.nil,.nil,.nil,.nil],false,Unit,(λ_=>[])⟩),
 (100,⟨2,true,24,(.struct [(9,0),(3,1)]),[.str [],.int .i64 0],false,Rf,bL⟩),
 (104,⟨1,false,24,(.sl 22),[.nil],false,(List (List (List UInt8))),(bM 1 (bM 1 encS))⟩),
 (107,⟨1,false,8,.ptr,[.raw (.pointer none)],false,Unit,(λ_=>[])⟩),
 (109,⟨2,true,32,(.struct [(107,0),(33,1)]),[.raw (.pointer none),.nil],false,Unit,(λ_=>[])⟩),
 (111,⟨3,true,40,(.struct [(109,0),(41,2)]),[.raw (.pointer none),.nil,.raw (.pointer none)],false,Unit,(λ_=>[])⟩),
 (126,⟨2,true,40,(.struct [(9,0),(33,1)]),[.str [],.nil],false,Dc,lT⟩),
 (132,⟨1,false,8,.ptr,[.raw (.pointer none)],false,Unit,(λ_=>[])⟩),
 (133,⟨1,false,24,(.sl 158),[.nil],false,(List Ob),(bM 6 an)⟩),
 (135,⟨1,true,24,(.struct [(133,0)]),[.nil],false,Unit,(λ_=>[])⟩),
 (137,⟨9,true,200,(.struct [(132,0),(58,1),(58,5)]),[.raw (.pointer none),.nil,.nil,.nil,.nil,.nil,.nil,.nil,.nil],false,Unit,(λ_=>[])⟩),
 (138,⟨1,false,24,(.sl 220),[.nil],false,(List Mv),(bM 3 cN)⟩),
 (140,⟨1,true,24,(.struct [(138,0)]),[.nil],false,Unit,(λ_=>[])⟩),
 (141,⟨1,false,24,(.sl 211),[.nil],false,(List It),(bM 5 aM)⟩),
 (143,⟨3,true,40,(.struct [(132,0),(141,1),(3,2)]),[.raw (.pointer none),.nil,.int .i64 0],false,Unit,(λ_=>[])⟩),
 (151,⟨1,false,24,(.sl 153),[.nil],false,(List Rf),(bM 2 bL)⟩),
 (153,⟨2,true,24,(.struct [(9,0),(3,1)]),[.str [],.int .i64 0],false,Rf,bL⟩),
 (156,⟨1,false,24,(.sl 237),[.nil],false,(List aI),(bM 4 cM)⟩),
 (158,⟨6,true,104,(.struct [(3,0),(33,1),(156,2),(3,3),(57,4),(9,5)]),[.int .i64 0,.nil,.nil,.int .i64 0,.nil,.str []],false,Ob,an⟩),
 (161,⟨4,true,40,(.struct [(9,0),(3,1),(3,2),(3,3)]),[.str [],.int .i64 0,.int .i64 0,.int .i64 0],true,Fi,aq⟩),
 (163,⟨9,true,96,(.struct [(9,0),(161,1),(161,5)]),[.str [],.str [],.int .i64 0,.int .i64 0,.int .i64 0,.str [],.int .i64 0,.int .i64 0,.int .i64 0],true,Ch,iT⟩),
 (169,⟨1,true,24,(.struct [(133,0)]),[.nil],false,Unit,(λ_=>[])⟩),
 (172,⟨2,true,24,(.struct [(9,0),(71,1)]),[.str [],.raw (.pointer none)],false,Unit,(λ_=>[])⟩),
 (183,⟨1,false,8,.ptr,[.raw (.pointer none)],false,Unit,(λ_=>[])⟩),
 (184,⟨1,false,24,(.sl 262),[.nil],false,(List Mv),(bM 3 cN)⟩),
 (186,⟨2,true,48,(.struct [(52,0),(184,1)]),[.nil,.nil],false,Unit,(λ_=>[])⟩),
 (187,⟨1,false,24,(.sl 193),[.nil],false,(List It),(bM 5 aM)⟩),
 (189,⟨3,true,40,(.struct [(94,0),(187,1),(3,2)]),[.raw (.pointer none),.nil,.int .i64 0],false,Unit,(λ_=>[])⟩),
 (193,⟨5,true,64,(.struct [(9,0),(33,1),(4,2),(3,3),(3,4)]),[.str [],.ls 1 UInt8 aN [],.bool false,.int .i64 0,.int .i64 0],false,It,aM⟩),
 (211,⟨5,true,64,(.struct [(9,0),(33,1),(4,2),(3,3),(3,4)]),[.str [],.ls 1 UInt8 aN [],.bool false,.int .i64 0,.int .i64 0],false,It,aM⟩),
 (220,⟨3,true,32,(.struct [(9,0),(3,1),(3,2)]),[.str [],.int .i64 0,.int .i64 0],false,Mv,cN⟩),
 (223,⟨1,false,24,(.sl 57),[.nil],false,(List (List Int)),(bM 1 (bM 1 encI))⟩),
 (237,⟨4,true,40,(.struct [(9,0),(3,1),(3,2),(3,3)]),[.str [],.int .i64 0,.int .i64 0,.int .i64 0],true,aI,cM⟩),
 (241,⟨1,false,16,.la,[.raw .nilIface],false,Unit,(λ_=>[])⟩),
 (256,⟨3,true,72,(.arr 3 89),[.nil,.nil,.nil],false,(Int×Int×Int),we⟩),
 (262,⟨3,true,32,(.struct [(9,0),(3,1),(3,2)]),[.str [],.int .i64 0,.int .i64 0],false,Mv,cN⟩),
 (266,⟨3,true,48,(.struct [(94,0),(9,1),(223,2)]),[.raw (.pointer none),.str [],.nil],false,Unit,(λ_=>[])⟩),
 (268,⟨1,false,24,(.sl 270),[.nil],false,(List (Int×Int)),(bM 2 kq)⟩),
 (270,⟨2,true,16,(.arr 2 3),[.int .i64 0,.int .i64 0],false,(Int×Int),kq⟩),
 (272,⟨1,false,8,(.int .i64),[.int .i64 0],false,Int,encI⟩),
 (279,⟨1,false,4,(.int .u32),[.int .u32 0],false,Unit,(λ_=>[])⟩),
 (281,⟨1,false,8,(.int .u64),[.int .u64 0],false,Unit,(λ_=>[])⟩),
 (286,⟨1,false,24,(.sl 33),[.nil],false,(List (List UInt8)),(bM 1 (bM 1 aN))⟩),
 (307,⟨4,true,64,(.struct [(94,0),(89,1),(22,2),(3,3)]),[.raw (.pointer none),.nil,.nil,.int .i64 0],false,Unit,(λ_=>[])⟩),
 (315,⟨1,false,8,(.int .u64),[.int .u64 0],false,Unit,(λ_=>[])⟩),
 (322,⟨1,false,24,(.sl 327),[.nil],false,(List (Int×Int)),(bM 2 kq)⟩),
 (324,⟨3,true,24,(.arr 3 3),[.int .i64 0,.int .i64 0,.int .i64 0],false,(Int×Int×Int),we⟩),
 (325,⟨1,false,24,(.sl 324),[.nil],false,(List (Int×Int×Int)),(bM 3 we)⟩),
 (327,⟨2,true,16,(.struct [(3,0),(3,1)]),[.int .i64 0,.int .i64 0],false,(Int×Int),kq⟩),
 (334,⟨1,false,8,(.int .i64),[.int .i64 0],false,Int,encI⟩),
 (337,⟨1,false,8,.ptr,[.raw (.pointer none)],false,Unit,(λ_=>[])⟩),
 (343,⟨1,false,8,.other,[.raw (.pointer none)],false,Unit,(λ_=>[])⟩),
 (345,⟨4,true,64,(.arr 4 9),[.str [],.str [],.str [],.str []],false,Unit,(λ_=>[])⟩),
 (363,⟨3,true,48,(.struct [(9,0),(9,1),(241,2)]),[.str [],.str [],.raw .nilIface],false,Unit,(λ_=>[])⟩),
 (374,⟨1,false,8,.ptr,[.raw (.pointer none)],false,Unit,(λ_=>[])⟩),
 (376,⟨1,true,16,(.struct [(9,0)]),[.str []],false,Unit,(λ_=>[])⟩),
 (386,⟨1,false,24,(.sl 395),[.nil],false,(List (Int×Int)),(bM 2 kq)⟩),
 (395,⟨2,true,16,(.struct [(3,0),(3,1)]),[.int .i64 0,.int .i64 0],false,(Int×Int),kq⟩),
 (401,⟨2,true,2,(.struct [(5,0),(5,1)]),[.int .u8 0,.int .u8 0],false,Unit,(λ_=>[])⟩)]
def tab:Nat->Option TD:=pE Ph
set_option maxRecDepth 20000 in
theorem tabOk : bI Tryz.prog tab := Pj ⟨aD Tryz.typeInfo2 Tryz.isAgg2 Tryz.underlying2,
 aD Tryz.typeInfo3 Tryz.isAgg3 Tryz.underlying3,
 aD Tryz.typeInfo4 Tryz.isAgg4 Tryz.underlying4,
 aD Tryz.typeInfo5 Tryz.isAgg5 Tryz.underlying5,
 aD Tryz.typeInfo9 Tryz.isAgg9 Tryz.underlying9,
 aD Tryz.typeInfo21 Tryz.isAgg21 Tryz.underlying21,
 aD Tryz.typeInfo22 Tryz.isAgg22 Tryz.underlying22,
 aD Tryz.typeInfo25 Tryz.isAgg25 Tryz.underlying25,
 aD Tryz.typeInfo29 Tryz.isAgg29 ⟨_,Tryz.underlying29,rfl,rfl⟩,
 aD Tryz.typeInfo33 Tryz.isAgg33 Tryz.underlying33,
 aD Tryz.typeInfo39 Tryz.isAgg39 Tryz.underlying39,
 aD Tryz.typeInfo41 Tryz.isAgg41 ⟨_,Tryz.underlying41⟩,
 aD Tryz.typeInfo44 Tryz.isAgg44 ⟨_,Tryz.underlying44,rfl,rfl⟩,
 aD Tryz.typeInfo46 Tryz.isAgg46 ⟨_,Tryz.underlying46,rfl,rfl⟩,
 aD Tryz.typeInfo50 Tryz.isAgg50 Tryz.underlying50,
 aD Tryz.typeInfo52 Tryz.isAgg52 Tryz.underlying52,
 aD Tryz.typeInfo55 Tryz.isAgg55 Tryz.underlying55,
 aD Tryz.typeInfo56 Tryz.isAgg56 Tryz.underlying56,
 aD Tryz.typeInfo57 Tryz.isAgg57 Tryz.underlying57,
 aD Tryz.typeInfo58 Tryz.isAgg58 Tryz.underlying58,
 aD Tryz.typeInfo61 Tryz.isAgg61 ⟨_,Tryz.underlying61⟩,
 aD Tryz.typeInfo62 Tryz.isAgg62 ⟨_,Tryz.underlying62⟩,
 aD Tryz.typeInfo63 Tryz.isAgg63 ⟨_,Tryz.underlying63⟩,
 aD Tryz.typeInfo65 Tryz.isAgg65 ⟨_,Tryz.underlying65,rfl,rfl⟩,
 aD Tryz.typeInfo66 Tryz.isAgg66 Tryz.underlying66,
 aD Tryz.typeInfo68 Tryz.isAgg68 ⟨_,Tryz.underlying68,rfl,rfl⟩,
 aD Tryz.typeInfo71 Tryz.isAgg71 ⟨_,Tryz.underlying71⟩,
 aD Tryz.typeInfo75 Tryz.isAgg75 Tryz.underlying75,
 aD Tryz.typeInfo78 Tryz.isAgg78 ⟨_,Tryz.underlying78⟩,
 aD Tryz.typeInfo79 Tryz.isAgg79 ⟨_,Tryz.underlying79⟩,
 aD Tryz.typeInfo80 Tryz.isAgg80 ⟨_,Tryz.underlying80⟩,
 aD Tryz.typeInfo81 Tryz.isAgg81 Tryz.underlying81,
 aD Tryz.typeInfo82 Tryz.isAgg82 Tryz.underlying82,
 aD Tryz.typeInfo84 Tryz.isAgg84 ⟨_,Tryz.underlying84,rfl,rfl⟩,
 aD Tryz.typeInfo87 Tryz.isAgg87 Tryz.underlying87,
 aD Tryz.typeInfo88 Tryz.isAgg88 Tryz.underlying88,
 aD Tryz.typeInfo89 Tryz.isAgg89 Tryz.underlying89,
 aD Tryz.typeInfo94 Tryz.isAgg94 ⟨_,Tryz.underlying94⟩,
 aD Tryz.typeInfo95 Tryz.isAgg95 Tryz.underlying95,
 aD Tryz.typeInfo96 Tryz.isAgg96 Tryz.underlying96,
 aD Tryz.typeInfo98 Tryz.isAgg98 ⟨_,Tryz.underlying98,rfl,rfl⟩,
 aD Tryz.typeInfo100 Tryz.isAgg100 ⟨_,Tryz.underlying100,rfl,rfl⟩,
 aD Tryz.typeInfo104 Tryz.isAgg104 Tryz.underlying104,
 aD Tryz.typeInfo107 Tryz.isAgg107 ⟨_,Tryz.underlying107⟩,
 aD Tryz.typeInfo109 Tryz.isAgg109 ⟨_,Tryz.underlying109,rfl,rfl⟩,
 aD Tryz.typeInfo111 Tryz.isAgg111 ⟨_,Tryz.underlying111,rfl,rfl⟩,
 aD Tryz.typeInfo126 Tryz.isAgg126 ⟨_,Tryz.underlying126,rfl,rfl⟩,
 aD Tryz.typeInfo132 Tryz.isAgg132 ⟨_,Tryz.underlying132⟩,
 aD Tryz.typeInfo133 Tryz.isAgg133 Tryz.underlying133,
 aD Tryz.typeInfo135 Tryz.isAgg135 ⟨_,Tryz.underlying135,rfl,rfl⟩,
 aD Tryz.typeInfo137 Tryz.isAgg137 ⟨_,Tryz.underlying137,rfl,rfl⟩,
 aD Tryz.typeInfo138 Tryz.isAgg138 Tryz.underlying138,
 aD Tryz.typeInfo140 Tryz.isAgg140 ⟨_,Tryz.underlying140,rfl,rfl⟩,
 aD Tryz.typeInfo141 Tryz.isAgg141 Tryz.underlying141,
 aD Tryz.typeInfo143 Tryz.isAgg143 ⟨_,Tryz.underlying143,rfl,rfl⟩,
 aD Tryz.typeInfo151 Tryz.isAgg151 Tryz.underlying151,
 aD Tryz.typeInfo153 Tryz.isAgg153 ⟨_,Tryz.underlying153,rfl,rfl⟩,
 aD Tryz.typeInfo156 Tryz.isAgg156 Tryz.underlying156,
 aD Tryz.typeInfo158 Tryz.isAgg158 ⟨_,Tryz.underlying158,rfl,rfl⟩,
 aD Tryz.typeInfo161 Tryz.isAgg161 ⟨_,Tryz.underlying161,rfl,rfl⟩ (λ_=>⟨by kernel_rfl,by exact(cW.struct (by kernel_rfl) (by kernel_rfl) (by rw[qM Tryz.underlying161];exact⟨false,[.str []],_,rfl,by decide,rfl,Tryz.isAgg9,fG Tryz.typeInfo9 rfl,by decide,(cW.str Tryz.underlying9),⟨false,[.int .i64 0],_,rfl,by decide,rfl,Tryz.isAgg3,fG Tryz.typeInfo3 rfl,by decide,(cW.int Tryz.underlying3),⟨false,[.int .i64 0],_,rfl,by decide,rfl,Tryz.isAgg3,fG Tryz.typeInfo3 rfl,by decide,(cW.int Tryz.underlying3),⟨false,[.int .i64 0],_,rfl,by decide,rfl,Tryz.isAgg3,fG Tryz.typeInfo3 rfl,by decide,(cW.int Tryz.underlying3),rfl⟩⟩⟩⟩))⟩),
 aD Tryz.typeInfo163 Tryz.isAgg163 ⟨_,Tryz.underlying163,rfl,rfl⟩ (λ_=>⟨by kernel_rfl,by exact(cW.struct (by kernel_rfl) (by kernel_rfl) (by rw[qM Tryz.underlying163];exact⟨false,[.str []],_,rfl,by decide,rfl,Tryz.isAgg9,fG Tryz.typeInfo9 rfl,by decide,(cW.str Tryz.underlying9),⟨true,[.str [],.int .i64 0,.int .i64 0,.int .i64 0],_,rfl,by decide,rfl,Tryz.isAgg161,fG Tryz.typeInfo161 rfl,by decide,(cW.struct (by kernel_rfl) (by kernel_rfl) (by rw[qM Tryz.underlying161];exact⟨false,[.str []],_,rfl,by decide,rfl,Tryz.isAgg9,fG Tryz.typeInfo9 rfl,by decide,(cW.str Tryz.underlying9),⟨false,[.int .i64 0],_,rfl,by decide,rfl,Tryz.isAgg3,fG Tryz.typeInfo3 rfl,by decide,(cW.int Tryz.underlying3),⟨false,[.int .i64 0],_,rfl,by decide,rfl,Tryz.isAgg3,fG Tryz.typeInfo3 rfl,by decide,(cW.int Tryz.underlying3),⟨false,[.int .i64 0],_,rfl,by decide,rfl,Tryz.isAgg3,fG Tryz.typeInfo3 rfl,by decide,(cW.int Tryz.underlying3),rfl⟩⟩⟩⟩)),⟨true,[.str [],.int .i64 0,.int .i64 0,.int .i64 0],_,rfl,by decide,rfl,Tryz.isAgg161,fG Tryz.typeInfo161 rfl,by decide,(cW.struct (by kernel_rfl) (by kernel_rfl) (by rw[qM Tryz.underlying161];exact⟨false,[.str []],_,rfl,by decide,rfl,Tryz.isAgg9,fG Tryz.typeInfo9 rfl,by decide,(cW.str Tryz.underlying9),⟨false,[.int .i64 0],_,rfl,by decide,rfl,Tryz.isAgg3,fG Tryz.typeInfo3 rfl,by decide,(cW.int Tryz.underlying3),⟨false,[.int .i64 0],_,rfl,by decide,rfl,Tryz.isAgg3,fG Tryz.typeInfo3 rfl,by decide,(cW.int Tryz.underlying3),⟨false,[.int .i64 0],_,rfl,by decide,rfl,Tryz.isAgg3,fG Tryz.typeInfo3 rfl,by decide,(cW.int Tryz.underlying3),rfl⟩⟩⟩⟩)),rfl⟩⟩⟩))⟩),
 aD Tryz.typeInfo169 Tryz.isAgg169 ⟨_,Tryz.underlying169,rfl,rfl⟩,
 aD Tryz.typeInfo172 Tryz.isAgg172 ⟨_,Tryz.underlying172,rfl,rfl⟩,
 aD Tryz.typeInfo183 Tryz.isAgg183 ⟨_,Tryz.underlying183⟩,
 aD Tryz.typeInfo184 Tryz.isAgg184 Tryz.underlying184,
 aD Tryz.typeInfo186 Tryz.isAgg186 ⟨_,Tryz.underlying186,rfl,rfl⟩,
 aD Tryz.typeInfo187 Tryz.isAgg187 Tryz.underlying187,
 aD Tryz.typeInfo189 Tryz.isAgg189 ⟨_,Tryz.underlying189,rfl,rfl⟩,
 aD Tryz.typeInfo193 Tryz.isAgg193 ⟨_,Tryz.underlying193,rfl,rfl⟩,
 aD Tryz.typeInfo211 Tryz.isAgg211 ⟨_,Tryz.underlying211,rfl,rfl⟩,
 aD Tryz.typeInfo220 Tryz.isAgg220 ⟨_,Tryz.underlying220,rfl,rfl⟩,
 aD Tryz.typeInfo223 Tryz.isAgg223 Tryz.underlying223,
 aD Tryz.typeInfo237 Tryz.isAgg237 ⟨_,Tryz.underlying237,rfl,rfl⟩ (λ_=>⟨by kernel_rfl,by exact(cW.struct (by kernel_rfl) (by kernel_rfl) (by rw[qM Tryz.underlying237];exact⟨false,[.str []],_,rfl,by decide,rfl,Tryz.isAgg9,fG Tryz.typeInfo9 rfl,by decide,(cW.str Tryz.underlying9),⟨false,[.int .i64 0],_,rfl,by decide,rfl,Tryz.isAgg3,fG Tryz.typeInfo3 rfl,by decide,(cW.int Tryz.underlying3),⟨false,[.int .i64 0],_,rfl,by decide,rfl,Tryz.isAgg3,fG Tryz.typeInfo3 rfl,by decide,(cW.int Tryz.underlying3),⟨false,[.int .i64 0],_,rfl,by decide,rfl,Tryz.isAgg3,fG Tryz.typeInfo3 rfl,by decide,(cW.int Tryz.underlying3),rfl⟩⟩⟩⟩))⟩),
 aD Tryz.typeInfo241 Tryz.isAgg241 ⟨_,Tryz.underlying241⟩,
 aD Tryz.typeInfo256 Tryz.isAgg256 Tryz.underlying256,
 aD Tryz.typeInfo262 Tryz.isAgg262 ⟨_,Tryz.underlying262,rfl,rfl⟩,
 aD Tryz.typeInfo266 Tryz.isAgg266 ⟨_,Tryz.underlying266,rfl,rfl⟩,
 aD Tryz.typeInfo268 Tryz.isAgg268 Tryz.underlying268,
 aD Tryz.typeInfo270 Tryz.isAgg270 Tryz.underlying270,
 aD Tryz.typeInfo272 Tryz.isAgg272 Tryz.underlying272,
 aD Tryz.typeInfo279 Tryz.isAgg279 Tryz.underlying279,
 aD Tryz.typeInfo281 Tryz.isAgg281 Tryz.underlying281,
 aD Tryz.typeInfo286 Tryz.isAgg286 Tryz.underlying286,
 aD Tryz.typeInfo307 Tryz.isAgg307 ⟨_,Tryz.underlying307,rfl,rfl⟩,
 aD Tryz.typeInfo315 Tryz.isAgg315 Tryz.underlying315,
 aD Tryz.typeInfo322 Tryz.isAgg322 Tryz.underlying322,
 aD Tryz.typeInfo324 Tryz.isAgg324 Tryz.underlying324,
 aD Tryz.typeInfo325 Tryz.isAgg325 Tryz.underlying325,
 aD Tryz.typeInfo327 Tryz.isAgg327 ⟨_,Tryz.underlying327,rfl,rfl⟩,
 aD Tryz.typeInfo334 Tryz.isAgg334 Tryz.underlying334,
 aD Tryz.typeInfo337 Tryz.isAgg337 ⟨_,Tryz.underlying337⟩,
 aD Tryz.typeInfo343 Tryz.isAgg343 trivial,
 aD Tryz.typeInfo345 Tryz.isAgg345 Tryz.underlying345,
 aD Tryz.typeInfo363 Tryz.isAgg363 ⟨_,Tryz.underlying363,rfl,rfl⟩,
 aD Tryz.typeInfo374 Tryz.isAgg374 ⟨_,Tryz.underlying374⟩,
 aD Tryz.typeInfo376 Tryz.isAgg376 ⟨_,Tryz.underlying376,rfl,rfl⟩,
 aD Tryz.typeInfo386 Tryz.isAgg386 Tryz.underlying386,
 aD Tryz.typeInfo395 Tryz.isAgg395 ⟨_,Tryz.underlying395,rfl,rfl⟩,
 aD Tryz.typeInfo401 Tryz.isAgg401 ⟨_,Tryz.underlying401,rfl,rfl⟩,
 trivial⟩
end Go.Proofs.YtpechfcbnoggfaaGreatDoor
end
section
namespace Go.Nest
open Go Go.AM Go.Proofs
open Go.Proofs.YtpechfcbnoggfaaGreatDoor (tab tabOk)
set_option maxRecDepth 4000
def gu(c:UInt8):Bool:=decide (c.toNat<=32)||decide (c.toNat=47)||decide (127<=c.toNat)
def bP(l:List UInt8):Int:=if l=[]\/l=[46]\/l=[46,46]\/l.any gu then 2 else if 20<l.length then 4 else 0
def shown(c:UInt8):Bool:=decide (32<=c.toNat)&&decide (c.toNat<127)
theorem ij{α:Type}{p:α->Bool}{l:List α}{i:Nat}(h:i<l.length)(h1:(l.take i).any p=false)(h2:p l[i]=false):(l.take (i+1)).any p=false:=by
 rw[P h,List.any_append,h1];simp[h2]
theorem qk{α:Type}{p:α->Bool}{l:List α}{i:Nat}(h:i<l.length)(h2:p l[i]=true):l.any p=true:=
 a6.2 ⟨_,Z h,h2⟩
theorem tO(l:List UInt8):aa Tryz.prog 214 [.c (.str l)] [] (Rt (.c (.int .i64 (bP l))) []):=by
 refine af (n:=39) (n0:=0) tabOk Tryz.call214 Tryz.func214 ?_;intro hb;have hb:l.length<=9223372036854775807:=hb.1.1
 have b:∀{i:Nat} (h:i<l.length),gu l[i]=true->(2:Int)=bP l:=λh d=>by
  unfold bP;rw[if_pos (.inr (.inr (.inr (qk h d))))]
 refine dec (λ(h:l=[])=>?_) (λ(h:¬l=[])=>?_)
 ·refine dY ?_ rfl;simp[bP,h]
 refine dec (λ(d:l=[46])=>?_) (λ(d:¬l=[46])=>?_)
 ·refine dY ?_ rfl;simp[bP,d]
 refine dec (λ(e:l=[46,46])=>?_) (λ(e:¬l=[46,46])=>?_)
 ·refine dY ?_ rfl;simp[bP,e]
 refine lp Nat (λi=>⟨[(0,.c (.str l)),(15,.c (.int .i64 l.length)),(16,.c (.int .i64 i))],[]⟩) (λi=>i<=l.length/\(l.take i).any gu=false) (λi=>l.length-i) 0 [] [] ?_ ?_ (λi j=>?_)
 ·simp
 ·repeat' first|exact trivial|exact rfl|refine And.intro ?_ ?_
 refine dec (λk=>?_) (λk=>?_)
 ·have a:i<l.length:=by omega
  refine⟨i,l[i],rfl,M a,?_⟩;refine dec (λf=>?_) (λf=>?_)
  ·refine dY ?_ rfl;rw[<-b a (by simp[gu];omega)]
  refine⟨i,l[i],rfl,M a,?_⟩;refine dec (λm=>?_) (λm=>?_)
  ·refine dY ?_ rfl;rw[<-b a (by simp[gu];omega)]
  refine⟨i,l[i],rfl,M a,?_⟩;refine dec (λo=>?_) (λo=>?_)
  ·refine dY ?_ rfl;rw[<-b a (by simp[gu];omega)]
  refine⟨i64 (by omega) (by omega),?_⟩;refine ag (i+1) [] [] ⟨a,ij a j.2 (by simp[gu];omega)⟩ (by simp only[];omega) ?_;repeat' first|exact trivial|exact rfl|refine And.intro ?_ ?_
 ·obtain rfl:i=l.length:=by omega
  have g:l.any gu=false:=by simpa using j.2
  refine dec (λf=>?_) (λf=>?_)
  ·refine dY ?_ rfl;unfold bP;rw[if_neg (by simp[h,d,e,g]),if_pos (by omega)]
  ·refine dY ?_ rfl;unfold bP;rw[if_neg (by simp[h,d,e,g]),if_neg (by omega)]
theorem Ql(l:List UInt8):aa Tryz.prog 235 [.c (.str l)] [] (Rt (.c (.int .i64 (bP l))) []):=by
 refine af (n:=39) (n0:=0) tabOk Tryz.call235 Tryz.func235 ?_;intro hb;have hb:l.length<=9223372036854775807:=hb.1.1
 have b:∀{i:Nat} (h:i<l.length),gu l[i]=true->(2:Int)=bP l:=λh d=>by
  unfold bP;rw[if_pos (.inr (.inr (.inr (qk h d))))]
 refine dec (λ(e:l=[])=>?_) (λ(e:¬l=[])=>?_)
 ·refine dY ?_ rfl;simp[bP,e]
 refine dec (λ(d:l=[46])=>?_) (λ(d:¬l=[46])=>?_)
 ·refine dY ?_ rfl;simp[bP,d]
 refine dec (λ(f:l=[46,46])=>?_) (λ(f:¬l=[46,46])=>?_)
 ·refine dY ?_ rfl;simp[bP,f]
 refine lp Nat (λi=>⟨[(0,.c (.str l)),(3,.c (.int .i64 i))],[]⟩) (λi=>i<=l.length/\(l.take i).any gu=false) (λi=>l.length-i) 0 [] [] ?_ ?_ (λi j=>?_)
 ·simp
 ·repeat' first|exact trivial|exact rfl|refine And.intro ?_ ?_
 refine dec (λk=>?_) (λk=>?_)
 ·have a:i<l.length:=by omega
  repeat'((conv=>whnf);first|(refine dec (λh=>?_) (λh=>?_)<;>try contradiction)|refine⟨i64 (by omega) (by omega),?_⟩|refine⟨_,_,rfl,M (by omega),?_⟩|refine aJ ?_|fail)
  ·rw[<-b a (by simp[gu];omega)]
  ·rw[<-b a (by simp[gu];omega)]
  ·rw[<-b a (by simp[gu];omega)]
  ·refine ag (i+1) [] [] ⟨a,ij a j.2 (by simp[gu];omega)⟩ (by simp only[];omega) ?_;repeat' first|exact trivial|exact rfl|refine And.intro ?_ ?_
 ·obtain rfl:i=l.length:=by omega
  have g:l.any gu=false:=by simpa using j.2
  repeat'((conv=>whnf);first|(refine dec (λh=>?_) (λh=>?_)<;>try contradiction)|refine aJ ?_|fail)
  ·unfold bP;rw[if_neg (by simp[e,d,f,g]),if_pos (by omega)]
  ·unfold bP;rw[if_neg (by simp[e,d,f,g]),if_neg (by omega)]
theorem yD(l:List UInt8):aa Tryz.prog 317 [.c (.str l)] [] (Rt (.c (.bool (l.all shown))) []):=by
 refine af (n:=20) (n0:=0) tabOk Tryz.call317 Tryz.func317 ?_;intro hb;have hb:l.length<=9223372036854775807:=hb.1.1;refine lp Nat (λi=>⟨[(0,.c (.str l)),(5,.c (.int .i64 l.length)),(6,.c (.int .i64 i))],[]⟩) (λi=>i<=l.length/\(l.take i).all shown=true) (λi=>l.length-i) 0 [] [] ?_ ?_ (λi e=>?_)
 ·simp
 ·repeat' first|exact trivial|exact rfl|refine And.intro ?_ ?_
 have b:∀(h:i<l.length),shown l[i]=false->false=l.all shown:=λh d=>by
  symm;rw[b2,Ne,W];intro f;rw[f _ (Z h)]at d;cases d
 refine dec (λg=>?_) (λg=>?_)
 ·have a:i<l.length:=by omega
  repeat'((conv=>whnf);first|(refine dec (λh=>?_) (λh=>?_)<;>try contradiction)|refine⟨i64 (by omega) (by omega),?_⟩|refine⟨_,_,rfl,M (by omega),?_⟩|refine aL ?_|fail)
  ·rw[<-b a (by simp[shown];omega)]
  ·rw[<-b a (by simp[shown];omega)]
  ·refine ag (i+1) [] [] ⟨a,?_⟩ (by simp only[];omega) ?_
   ·rw[P a,List.all_append,e.2];simp[shown];omega
   repeat' first|exact trivial|exact rfl|refine And.intro ?_ ?_
 ·obtain rfl:i=l.length:=by omega
  have j:l.all shown=true:=by simpa using e.2
  repeat'((conv=>whnf);first|refine aL ?_|fail)
  rw[j]
end Go.Nest
end
section
namespace Go.Nest
open Go Go.AM Go.Proofs
theorem tP{α:Type}[DecidableEq α]{l m:List α}{i:Nat}(h:i<l.length)(a:i<m.length)(hne:¬l[i]=m[i]):false=decide (l=m):=by
 symm;rw[decide_eq_false_iff_not];intro e;subst e;exact hne rfl
theorem rU{α:Type}{l m:List α}{i:Nat}(h:i<l.length)(a:i<m.length)(b:l.take i=m.take i)(he:l[i]=m[i]):l.take (i+1)=m.take (i+1):=by
 rw[P h,P a,b,he]
theorem uE{α:Type}[DecidableEq α]{l m:List α}{i:Nat}(h:l.length<=i)(hl:l.length=m.length)(a:l.take i=m.take i):true=decide (l=m):=by
 symm;rw[decide_eq_true_iff];rwa[S h,S (hl▸h)]at a
theorem tQ{α:Type}[DecidableEq α]{l m:List α}(h:¬(l.length:Int)=m.length):false=decide (l=m):=by
 symm;rw[decide_eq_false_iff_not];intro e;subst e;exact h rfl
theorem Ad{a b:UInt8}:(a.toNat:Int)=b.toNat↔a=b:=by rw[Int.natCast_inj];exact UInt8.toNat_inj
theorem Be{a b:aI}:e8 (cM a) (cM b)↔a=b:=by
 cases a;cases b;simp[cM,e8,nW]
end Go.Nest
end
section
namespace Go.Nest
open Go Go.AM Go.Proofs
open Go.Proofs.YtpechfcbnoggfaaGreatDoor (tab tabOk)
set_option maxRecDepth 4000
theorem Qo(a b:List Int):aa Tryz.prog 30 [.c (.bs 1 Int encI a),.c (.bs 1 Int encI b)] [] (Rt (.c (.bool (decide (a=b)))) []):=by
 refine af (n:=26) (n0:=0) tabOk Tryz.call30 Tryz.func30 ?_;intro hb;have hb:a.length<=9223372036854775807:=hb.1.1;repeat'((conv=>whnf);first|(refine ay (λh=>?_) (λh=>?_)<;>try contradiction)|refine aL ?_|fail)
 ·exact tQ h
 (conv=>whnf);have k:a.length=b.length:=by omega
 refine lp Nat (λi=>⟨[(0,.c (.bs 1 Int encI a)),(1,.c (.bs 1 Int encI b)),(5,.c (.int .i64 i))],[]⟩) (λi=>i<=a.length/\a.take i=b.take i) (λi=>a.length-i) 0 [] [] ?_ ?_ (λi g=>?_)
 ·simp
 ·repeat' first|exact trivial|exact rfl|refine And.intro ?_ ?_
 refine dec (λj=>?_) (λj=>?_)
 ·have f:i<a.length:=by omega
  have d:i<b.length:=by omega
  refine⟨false,.grow,(.l [0,1,2,3,4,5,6,7,8]),by kernel_rfl,.inl ?_⟩;repeat'((conv=>whnf);first|(refine ay (λh=>?_) (λh=>?_)<;>try contradiction)|refine⟨i64 (by omega) (by omega),?_⟩|refine⟨_,_,rfl,M (by omega),?_⟩|refine aL ?_|fail)
  ·exact tP f d (λe=>h ((Iff.rfl).2 e))
  ·refine ag (i+1) [] [] ⟨f,rU f d g.2 ((Iff.rfl).1 h)⟩ (by simp only[];omega) ?_;repeat' first|exact trivial|exact rfl|refine And.intro ?_ ?_
 ·repeat'((conv=>whnf);first|refine aL ?_|fail)
  exact uE (by omega) k g.2
theorem I3(a b:List Int):aa Tryz.prog 321 [.c (.bs 1 Int encI a),.c (.bs 1 Int encI b)] [] (Rt (.c (.bool (decide (a=b)))) []):=by
 refine af (n:=26) (n0:=0) tabOk Tryz.call321 Tryz.func321 ?_;intro hb;have hb:a.length<=9223372036854775807:=hb.1.1;repeat'((conv=>whnf);first|(refine ay (λh=>?_) (λh=>?_)<;>try contradiction)|refine aL ?_|fail)
 ·exact tQ h
 (conv=>whnf);have k:a.length=b.length:=by omega
 refine lp Nat (λi=>⟨[(0,.c (.bs 1 Int encI a)),(1,.c (.bs 1 Int encI b)),(12,.c (.int .i64 a.length)),(13,.c (.int .i64 i))],[]⟩) (λi=>i<=a.length/\a.take i=b.take i) (λi=>a.length-i) 0 [] [] ?_ ?_ (λi g=>?_)
 ·simp
 ·repeat' first|exact trivial|exact rfl|refine And.intro ?_ ?_
 refine dec (λj=>?_) (λj=>?_)
 ·have f:i<a.length:=by omega
  have d:i<b.length:=by omega
  refine⟨false,.grow,(.l [0,1,2,3,4,5,6,7,8]),by kernel_rfl,.inl ?_⟩;repeat'((conv=>whnf);first|(refine ay (λh=>?_) (λh=>?_)<;>try contradiction)|refine⟨i64 (by omega) (by omega),?_⟩|refine⟨_,_,rfl,M (by omega),?_⟩|refine aL ?_|fail)
  ·exact tP f d (λe=>h ((Iff.rfl).2 e))
  ·refine ag (i+1) [] [] ⟨f,rU f d g.2 ((Iff.rfl).1 h)⟩ (by simp only[];omega) ?_;repeat' first|exact trivial|exact rfl|refine And.intro ?_ ?_
 ·repeat'((conv=>whnf);first|refine aL ?_|fail)
  exact uE (by omega) k g.2
theorem IY(a b:List UInt8):aa Tryz.prog 319 [.c (.bs 1 UInt8 aN a),.c (.bs 1 UInt8 aN b)] [] (Rt (.c (.bool (decide (a=b)))) []):=by
 refine af (n:=26) (n0:=0) tabOk Tryz.call319 Tryz.func319 ?_;intro hb;have hb:a.length<=9223372036854775807:=hb.1.1;repeat'((conv=>whnf);first|(refine ay (λh=>?_) (λh=>?_)<;>try contradiction)|refine aL ?_|fail)
 ·exact tQ h
 (conv=>whnf);have k:a.length=b.length:=by omega
 refine lp Nat (λi=>⟨[(0,.c (.bs 1 UInt8 aN a)),(1,.c (.bs 1 UInt8 aN b)),(12,.c (.int .i64 a.length)),(13,.c (.int .i64 i))],[]⟩) (λi=>i<=a.length/\a.take i=b.take i) (λi=>a.length-i) 0 [] [] ?_ ?_ (λi g=>?_)
 ·simp
 ·repeat' first|exact trivial|exact rfl|refine And.intro ?_ ?_
 refine dec (λj=>?_) (λj=>?_)
 ·have f:i<a.length:=by omega
  have d:i<b.length:=by omega
  refine⟨false,.grow,(.l [0,1,2,3,4,5,6,7,8]),by kernel_rfl,.inl ?_⟩;repeat'((conv=>whnf);first|(refine ay (λh=>?_) (λh=>?_)<;>try contradiction)|refine⟨i64 (by omega) (by omega),?_⟩|refine⟨_,_,rfl,M (by omega),?_⟩|refine aL ?_|fail)
  ·exact tP f d (λe=>h ((Ad).2 e))
  ·refine ag (i+1) [] [] ⟨f,rU f d g.2 ((Ad).1 h)⟩ (by simp only[];omega) ?_;repeat' first|exact trivial|exact rfl|refine And.intro ?_ ?_
 ·repeat'((conv=>whnf);first|refine aL ?_|fail)
  exact uE (by omega) k g.2
theorem IZ(a b:List aI):aa Tryz.prog 320 [.c (.bs 4 aI cM a),.c (.bs 4 aI cM b)] [] (Rt (.c (.bool (decide (a=b)))) []):=by
 refine af (n:=26) (n0:=0) tabOk Tryz.call320 Tryz.func320 ?_;intro hb;have hb:a.length<=9223372036854775807:=hb.1.1;repeat'((conv=>whnf);first|(refine ay (λh=>?_) (λh=>?_)<;>try contradiction)|refine aL ?_|fail)
 ·exact tQ h
 (conv=>whnf);have k:a.length=b.length:=by omega
 refine lp Nat (λi=>⟨[(0,.c (.bs 4 aI cM a)),(1,.c (.bs 4 aI cM b)),(12,.c (.int .i64 a.length)),(13,.c (.int .i64 i))],[]⟩) (λi=>i<=a.length/\a.take i=b.take i) (λi=>a.length-i) 0 [] [] ?_ ?_ (λi g=>?_)
 ·simp
 ·repeat' first|exact trivial|exact rfl|refine And.intro ?_ ?_
 refine dec (λj=>?_) (λj=>?_)
 ·have f:i<a.length:=by omega
  have d:i<b.length:=by omega
  refine⟨false,.grow,(.l [0,1,2,3,4,5,6,7,8]),by kernel_rfl,.inl ?_⟩;repeat'((conv=>whnf);first|(refine ay (λh=>?_) (λh=>?_)<;>try contradiction)|refine⟨i64 (by omega) (by omega),?_⟩|refine⟨_,_,rfl,M (by omega),?_⟩|refine aL ?_|fail)
  ·exact tP f d (λe=>h ((Be).2 e))
  ·refine ag (i+1) [] [] ⟨f,rU f d g.2 ((Be).1 h)⟩ (by simp only[];omega) ?_;repeat' first|exact trivial|exact rfl|refine And.intro ?_ ?_
 ·repeat'((conv=>whnf);first|refine aL ?_|fail)
  exact uE (by omega) k g.2
theorem vL(l:List UInt8)(hl:l.length*1<=140737488355328):aa Tryz.prog 118 [.c (.bs 1 UInt8 aN l)] [] (Rt (.c (.rw 0)) [.row 1 UInt8 aN l]):=by
 refine af (n:=8) (n0:=0) tabOk Tryz.call118 Tryz.func118 ?_;intro hb;(conv=>whnf);intro q a;refine aS (λh=>?_) (λh=>?_)
 ·obtain rfl:=a h;exact rx [] [.new]
 ·refine⟨[],rfl,?_⟩;refine⟨_,_,rfl,rfl,(by simp only[N,T,U];omega),?_⟩;exact rx [] [.s 1]
theorem Hz(l:List aI)(hl:l.length*40<=140737488355328):aa Tryz.prog 296 [.c (.bs 4 aI cM l)] [] (Rt (.c (.rw 0)) [.row 4 aI cM l]):=by
 refine af (n:=8) (n0:=0) tabOk Tryz.call296 Tryz.func296 ?_;intro hb;(conv=>whnf);intro q a;refine aS (λh=>?_) (λh=>?_)
 ·obtain rfl:=a h;exact rx [] [.new]
 ·refine⟨[],rfl,?_⟩;refine⟨_,_,rfl,rfl,(by simp only[N,T,U];omega),?_⟩;exact rx [] [.s 1]
theorem sG(l:List Int)(hl:l.length*8<=140737488355328):aa Tryz.prog 102 [.c (.bs 1 Int encI l)] [] (Rt (.c (.rw 0)) [.row 1 Int encI l]):=by
 refine af (n:=8) (n0:=0) tabOk Tryz.call102 Tryz.func102 ?_;intro hb;(conv=>whnf);intro q a;refine aS (λh=>?_) (λh=>?_)
 ·obtain rfl:=a h;exact rx [] [.new]
 ·refine⟨[],rfl,?_⟩;refine⟨_,_,rfl,rfl,(by simp only[N,T,U];omega),?_⟩;exact rx [] [.s 1]
def gP(a:Option (List UInt8))(e:aI):Int:=
 if bP e.name≠0 then bP e.name else if e.mode<1\/3<e.mode then 6 else if e.id<0\/e.ax<0\/4<=e.ax then 1 else if e.mode≠3/\e.ax≠0 then 7
 else match a with
  |some p=>if Op.bytesLess p e.name=true then 0 else 8
  |none=>0
def eA:Option (List UInt8)->List aI->Int
 |_,[]=>0
 |a,e::r=>if gP a e=0 then eA (some e.name) r else gP a e
def jO(l:List aI):Nat->Option (List UInt8)
 |0=>none
 |i+1=>(l[i]?).map (·.name)
def nV(l:List aI):Int:=if 60<l.length then 5 else eA none l
theorem IW{l:List aI}{i:Nat}(h:i<l.length)(hi:eA none l=eA (jO l i) (l.drop i)):eA none l=if gP (jO l i) l[i]=0 then eA (jO l (i+1)) (l.drop (i+1))else gP (jO l i) l[i]:=by
 rw[hi,List.drop_eq_getElem_cons h];have:jO l (i+1)=some l[i].name:=by simp[jO,h]
 rw[this,eA]
theorem MT{l:List aI}{i:Nat}(h:0<i)(hi:i<l.length):jO l i=some (l[i-1]'(by omega)).name:=by
 cases i with
 |zero=>omega
 |succ j=>simp only[jO];rw[M (by omega)];rfl
theorem yy(l:List aI):aa Tryz.prog 318 [.c (.bs 4 aI cM l)] [] (Rt (.c (.int .i64 (nV l))) []):=by
 refine af (n:=69) (n0:=0) tabOk Tryz.call318 Tryz.func318 ?_;intro hb;have hb:l.length<=9223372036854775807:=hb.1.1;repeat'((conv=>whnf);first|(refine dec (λh=>?_) (λh=>?_)<;>try contradiction)|refine aJ ?_|fail)
 ·unfold nV;rw[if_pos (by omega)]
 (conv=>whnf);have m:nV l=eA none l:=by unfold nV;rw[if_neg (by omega)]
 rw[m];refine lp Nat (λi=>⟨[(0,.c (.bs 4 aI cM l)),(9,.c (.bs 4 aI cM l)),(10,.c (.int .i64 l.length)),(11,.c (.int .i64 i))],[]⟩) (λi=>i<=l.length/\eA none l=eA (jO l i) (l.drop i)) (λi=>l.length-i) 0 [] [] ?_ ?_ (λi e=>?_)
 ·simp[jO]
 ·repeat' first|exact trivial|exact rfl|refine And.intro ?_ ?_
 refine dec (λj=>?_) (λj=>?_)
 ·have a:i<l.length:=by omega
  have d:=IW a e.2;repeat'((conv=>whnf);first|refine⟨_,_,rfl,M (by omega),?_⟩|fail)
  refine cl [] [] (tO l[i].name) ?_;have b:∀{c:Int},gP (jO l i) l[i]=c->c≠0->c=eA none l:=λf g=>by rw[d,f,if_neg g]
  repeat'((conv=>whnf);first|(refine dec (λh=>?_) (λh=>?_)<;>try contradiction)|(refine ay (λh=>?_) (λh=>?_)<;>try contradiction)|refine aJ ?_|fail)
  all_goals first|(refine b ?_ ?_<;>simp[gP, *];done)|skip
  all_goals
   refine⟨false,.grow,(.l [0,1,2,3,4,5,6,7,8,9,10,11,12,13]),by kernel_rfl,.inl ?_⟩;repeat'((conv=>whnf);first|(refine dec (λh=>?_) (λh=>?_)<;>try contradiction)|refine⟨i64 (by omega) (by omega),?_⟩|fail)
   ·refine⟨i-1,l[i-1],by omega,M (by omega),?_⟩;have k:=MT (l:=l) (i:=i) (by omega) a;repeat'((conv=>whnf);first|refine dB (λh=>?_) (λh=>?_)|refine⟨i64 (by omega) (by omega),?_⟩|refine aJ ?_|fail)
    ·refine b ?_ (by decide);simp[gP, *]
    ·refine ag (i+1) [] [] ⟨a,?_⟩ (by simp only[];omega) ?_
     ·rw[d,if_pos];simp[gP, *]
     repeat' first|exact trivial|exact rfl|refine And.intro ?_ ?_
   ·have k:jO l i=none:=by
     obtain rfl:i=0:=by omega
     rfl
    skip;refine ag (i+1) [] [] ⟨a,?_⟩ (by simp only[];omega) ?_
    ·rw[d,if_pos];simp[gP, *]
    repeat' first|exact trivial|exact rfl|refine And.intro ?_ ?_
 ·repeat'((conv=>whnf);first|refine aJ ?_|fail)
  have:=e.2;rw[List.drop_of_length_le (by omega)]at this;rw[this];rfl
def bD{α:Type}(p:α->Bool)(l:List α):Int:=match l.findIdx? p with
 |some i=>i
 |none=> -1
theorem jG{α:Type}{p:α->Bool}{l:List α}{i:Nat}(h:i<l.length)(h1:(l.take i).any p=false)(h2:p l[i]=true):(i:Int)=bD p l:=by
 have:l.findIdx? p=some i:=by
  rw[a0];refine⟨h,h2,λj a=>?_⟩;rw[al]at h1;have:=h1 l[j] (by rw[a2];exact⟨j,by omega,rfl⟩);simpa using this
 unfold bD;rw[this]
theorem ky{α:Type}{p:α->Bool}{l:List α}(h1:l.any p=false):(-1:Int)=bD p l:=by
 have:l.findIdx? p=none:=by
  rw[a3];rw[al]at h1;intro x a;simpa using h1 x a
 unfold bD;rw[this]
theorem pv{α:Type}{p:α->Bool}{l:List α}:decide (0<=bD p l)=l.any p:=by
 unfold bD;cases h:l.findIdx? p with
 |none=>
  rw[a3]at h;simp;exact h
 |some i=>
  rw[a0]at h;obtain⟨a,b,_⟩:=h;rw[qk a b];simp
theorem Kd{g:Nat}{p:Int->Bool}(e:∀x,aa Tryz.prog g [.c (.int .i64 x)] [] (Rt (.c (.bool (p x))) []))(l:List Int):aa Tryz.prog 178 [.c (.bs 1 Int encI l),.c (.fn g [])] [] (Rt (.c (.int .i64 (bD p l))) []):=by
 refine af (n:=19) (n0:=0) tabOk Tryz.call178 Tryz.func178 ?_;intro hb;have hb:l.length<=9223372036854775807:=hb.1.1;refine lp Nat (λi=>⟨[(0,.c (.bs 1 Int encI l)),(1,.c (.fn g [])),(7,.c (.int .i64 l.length)),(8,.c (.int .i64 i))],[]⟩) (λi=>i<=l.length/\(l.take i).any p=false) (λi=>l.length-i) 0 [] [] ?_ ?_ (λi b=>?_)
 ·simp
 ·repeat' first|exact trivial|exact rfl|refine And.intro ?_ ?_
 refine dec (λd=>?_) (λd=>?_)
 ·have a:i<l.length:=by omega
  repeat'((conv=>whnf);first|refine⟨_,_,rfl,M (by omega),?_⟩|fail)
  refine cl [] [] (e l[i]) ?_;repeat'((conv=>whnf);first|refine aS (λh=>?_) (λh=>?_)|refine⟨i64 (by omega) (by omega),?_⟩|refine aJ ?_|fail)
  ·exact jG a b.2 h
  ·refine ag (i+1) [] [] ⟨a,ij a b.2 h⟩ (by simp only[];omega) ?_;repeat' first|exact trivial|exact rfl|refine And.intro ?_ ?_
 ·repeat'((conv=>whnf);first|refine aJ ?_|fail)
  have:=b.2;rw[S (by omega)]at this;exact ky this
theorem vV{g:Nat}{p:Int->Bool}(a:∀x,aa Tryz.prog g [.c (.int .i64 x)] [] (Rt (.c (.bool (p x))) []))(l:List Int):aa Tryz.prog 106 [.c (.bs 1 Int encI l),.c (.fn g [])] [] (Rt (.c (.bool (l.any p))) []):=by
 refine af (n:=9) (n0:=0) tabOk Tryz.call106 Tryz.func106 ?_;intro hb;refine cl [] [] (Kd a l) ?_;exact aL pv
theorem vF(n:Int):aa Tryz.prog 316 [.c (.int .i64 n)] [] (Rt (.c (.bool (decide (n<0)))) []):=by
 refine af (n:=5) (n0:=0) tabOk Tryz.call316 Tryz.func316 ?_;intro hb;exact aL rfl
def ca(o:Ob):Int:=
 if o.kind<1\/3<o.kind then 6
 else if(o.kind≠1/\0<o.bytes.length)\/(o.kind≠2/\0<o.entries.length)\/(o.kind≠3/\(o.tree≠0\/0<o.parents.length\/0<o.text.length))then 7
 else if 400<o.bytes.length\/60<o.text.length then 4
 else if 3<o.parents.length then 5
 else if o.tree<0 then 1
 else if o.parents.any (λk=>decide (k<0))=true then 1
 else if o.text.all shown=true then nV o.entries
 else 2
theorem Hu(o:Ob):aa Tryz.prog 270 [.st (iG o)] [] (Rt (.c (.int .i64 (ca o))) []):=by
 obtain⟨kind,bytes,a,tree,b,d⟩:=o;refine af (n:=98) (n0:=0) tabOk Tryz.call270 Tryz.func270 ?_;intro hb;refine⟨false,.grow,(.l [0,1,2,3,4,5,6,7,8,9,10,11]),by kernel_rfl,.inl ?_⟩;by_cases e:kind=1
 ·subst e;repeat'((conv=>whnf);first|(refine dec (λh=>?_) (λh=>?_)<;>try contradiction)|(refine ay (λh=>?_) (λh=>?_)<;>try contradiction)|refine aJ ?_|fail)
  all_goals first|(show(_:Int)=ca _;dsimp only at*;(try simp only[str_nil,<-O]at*);simp only[ca];(repeat' split)<;>first|rfl|(exfalso;omega)|(simp_all;done))|skip
  all_goals
   refine cl [] [] (vV vF b) ?_;repeat'((conv=>whnf);first|refine aS (λh=>?_) (λh=>?_)|refine aJ ?_|fail)
  all_goals first|(show(_:Int)=ca _;dsimp only at*;(try simp only[str_nil,<-O]at*);simp only[ca];(repeat' split)<;>first|rfl|(exfalso;omega)|(simp_all;done))|skip
  all_goals
   refine cl [] [] (yD d) ?_;repeat'((conv=>whnf);first|refine dB (λh=>?_) (λh=>?_)|refine aJ ?_|fail)
  all_goals first|(show(_:Int)=ca _;dsimp only at*;(try simp only[str_nil,<-O]at*);simp only[ca];(repeat' split)<;>first|rfl|(exfalso;omega)|(simp_all;done))|skip
  all_goals
   refine cl [] [] (yy a) ?_;repeat'((conv=>whnf);first|refine aJ ?_|fail)
  all_goals first|(show(_:Int)=ca _;dsimp only at*;(try simp only[str_nil,<-O]at*);simp only[ca];(repeat' split)<;>first|rfl|(exfalso;omega)|(simp_all;done))|skip
 by_cases f:kind=2
 ·subst f;repeat'((conv=>whnf);first|(refine dec (λh=>?_) (λh=>?_)<;>try contradiction)|(refine ay (λh=>?_) (λh=>?_)<;>try contradiction)|refine aJ ?_|fail)
  all_goals first|(show(_:Int)=ca _;dsimp only at*;(try simp only[str_nil,<-O]at*);simp only[ca];(repeat' split)<;>first|rfl|(exfalso;omega)|(simp_all;done))|skip
  all_goals
   refine cl [] [] (vV vF b) ?_;repeat'((conv=>whnf);first|refine aS (λh=>?_) (λh=>?_)|refine aJ ?_|fail)
  all_goals first|(show(_:Int)=ca _;dsimp only at*;(try simp only[str_nil,<-O]at*);simp only[ca];(repeat' split)<;>first|rfl|(exfalso;omega)|(simp_all;done))|skip
  all_goals
   refine cl [] [] (yD d) ?_;repeat'((conv=>whnf);first|refine dB (λh=>?_) (λh=>?_)|refine aJ ?_|fail)
  all_goals first|(show(_:Int)=ca _;dsimp only at*;(try simp only[str_nil,<-O]at*);simp only[ca];(repeat' split)<;>first|rfl|(exfalso;omega)|(simp_all;done))|skip
  all_goals
   refine cl [] [] (yy a) ?_;repeat'((conv=>whnf);first|refine aJ ?_|fail)
  all_goals first|(show(_:Int)=ca _;dsimp only at*;(try simp only[str_nil,<-O]at*);simp only[ca];(repeat' split)<;>first|rfl|(exfalso;omega)|(simp_all;done))|skip
 by_cases g:kind=3
 ·subst g;repeat'((conv=>whnf);first|(refine dec (λh=>?_) (λh=>?_)<;>try contradiction)|refine aJ ?_|fail)
  all_goals first|(show(_:Int)=ca _;dsimp only at*;(try simp only[str_nil,<-O]at*);simp only[ca];(repeat' split)<;>first|rfl|(exfalso;omega)|(simp_all;done))|skip
  all_goals
   refine cl [] [] (vV vF b) ?_;repeat'((conv=>whnf);first|refine aS (λh=>?_) (λh=>?_)|refine aJ ?_|fail)
  all_goals first|(show(_:Int)=ca _;dsimp only at*;(try simp only[str_nil,<-O]at*);simp only[ca];(repeat' split)<;>first|rfl|(exfalso;omega)|(simp_all;done))|skip
  all_goals
   refine cl [] [] (yD d) ?_;repeat'((conv=>whnf);first|refine dB (λh=>?_) (λh=>?_)|refine aJ ?_|fail)
  all_goals first|(show(_:Int)=ca _;dsimp only at*;(try simp only[str_nil,<-O]at*);simp only[ca];(repeat' split)<;>first|rfl|(exfalso;omega)|(simp_all;done))|skip
  all_goals
   refine cl [] [] (yy a) ?_;repeat'((conv=>whnf);first|refine aJ ?_|fail)
  all_goals first|(show(_:Int)=ca _;dsimp only at*;(try simp only[str_nil,<-O]at*);simp only[ca];(repeat' split)<;>first|rfl|(exfalso;omega)|(simp_all;done))|skip
 ·have:ca ⟨kind,bytes,a,tree,b,d⟩=6:=by
   unfold ca;rw[if_pos (by simp only[];omega)]
  rw[this];repeat'((conv=>whnf);first|(refine ay (λh=>?_) (λh=>?_)<;>try contradiction)|refine aJ ?_|fail)
  all_goals rfl
theorem xF{o u:Ob}(h:¬(o.kind=u.kind/\o.tree=u.tree/\o.text=u.text/\o.bytes=u.bytes/\o.entries=u.entries/\o.parents=u.parents)):false=decide (o=u):=by
 symm;rw[decide_eq_false_iff_not];intro e;subst e;exact h ⟨rfl,rfl,rfl,rfl,rfl,rfl⟩
theorem Me{o u:Ob}(h1:o.kind=u.kind)(h2:o.tree=u.tree)(a:o.text=u.text)(b:o.bytes=u.bytes)(c:o.entries=u.entries)(d:o.parents=u.parents):o=u:=by
 cases o;cases u;simp_all
theorem N0(o u:Ob):aa Tryz.prog 274 [.st (iG o),.st (iG u)] [] (Rt (.c (.bool (decide (o=u)))) []):=by
 refine af (n:=45) (n0:=0) tabOk Tryz.call274 Tryz.func274 ?_;intro hb;repeat'((conv=>whnf);first|(refine dec (λh=>?_) (λh=>?_)<;>try contradiction)|refine aL ?_|fail)
 ·refine cl [] [] (IY o.bytes u.bytes) ?_;repeat'((conv=>whnf);first|(refine dec (λh=>?_) (λh=>?_)<;>try contradiction)|refine aL ?_|fail)
  ·refine cl [] [] (IZ o.entries u.entries) ?_;repeat'((conv=>whnf);first|(refine dec (λh=>?_) (λh=>?_)<;>try contradiction)|refine aL ?_|fail)
   ·refine cl [] [] (I3 o.parents u.parents) ?_;repeat'((conv=>whnf);first|refine aL ?_|fail)
    rw[ce,decide_eq_true_iff,decide_eq_true_iff];exact⟨λa=>by apply Me<;>assumption,λe=>by rw[e]⟩
   all_goals exact xF (by simp[*])
  all_goals exact xF (by simp[*])
 all_goals exact xF (by simp[*])
theorem DE(o:Ob)(h1:o.bytes.length*1<=140737488355328)(h2:o.entries.length*40<=140737488355328)(a:o.parents.length*8<=140737488355328):aa Tryz.prog 247 [.st (iG o)] [] (Rt (.st (an o)) []):=by
 refine af (n:=16) (n0:=0) tabOk Tryz.call247 Tryz.func247 ?_;intro hb;refine⟨false,.grow,(.l [0,1,3,4,6,7,2,9,5,8,10,11,12,13,14]),by kernel_rfl,.inl ?_⟩;skip;refine cl [] [] (vL o.bytes h1) ?_;skip;refine cl [] [] (Hz o.entries h2) ?_;skip;refine cl [] [] (sG o.parents a) ?_;skip;exact rx [2,3,4] []
def nJ:Ob:=⟨0,[],[],0,[],[]⟩
def kindOf(l:List Ob)(id:Int):Int:=if id<0 then 0 else((l[id.toNat]?).map (·.kind)).getD 0
theorem Cp{l:List Ob}{id:Int}(h:id<0):(0:Int)=kindOf l id:=by simp[kindOf,h]
theorem Co{l:List Ob}{id:Int}(h:(l.length:Int)<=id):(0:Int)=kindOf l id:=by
 unfold kindOf;split
 ·rfl
 ·rw[bi (by omega)];rfl
theorem KC{l:List Ob}{id:Int}(h:¬id<0)(h2:id.toNat<l.length):l[id.toNat].kind=kindOf l id:=by
 unfold kindOf;rw[if_neg h,M h2];rfl
theorem pA(l:List Ob)(id:Int):aa Tryz.prog 103 [.c (.bp [.bs 6 Ob an l]),.c (.int .i64 id)] [] (Rt (.c (.int .i64 (kindOf l id))) []):=by
 refine af (n:=24) (n0:=0) tabOk Tryz.call103 Tryz.func103 ?_;intro hb;repeat'((conv=>whnf);first|(refine dec (λh=>?_) (λh=>?_)<;>try contradiction)|refine aJ ?_|fail)
 ·exact Cp h
 ·exact Co h
 ·(conv=>whnf);have a:id.toNat<l.length:=by omega
  refine⟨id.toNat,l[id.toNat],by omega,M a,?_⟩;repeat'((conv=>whnf);first|refine aJ ?_|fail)
  exact KC (by assumption) a
theorem pD(l:List Ob):aa Tryz.prog 71 [.c (.bp [.bs 6 Ob an l])] [] (Rt (.c (.int .i64 l.length)) []):=by
 refine af (n:=8) (n0:=0) tabOk Tryz.call71 Tryz.func71 ?_;intro hb;repeat'((conv=>whnf);first|refine aJ ?_|fail)
 rfl
def fg(l:List Ob)(o:Ob):Bool:=(o.entries.all λe=>decide (kindOf l e.id=e.mode))&&((o.parents.all λk=>decide (kindOf l k=3))&&(!decide (o.kind=3)||decide (kindOf l o.tree=2)))
theorem u7{α:Type}{p:α->Bool}{l:List α}{i:Nat}(h:i<l.length)(h1:(l.take i).all p=true)(h2:p l[i]=true):(l.take (i+1)).all p=true:=by
 rw[P h,List.all_append,h1];simp[h2]
theorem u6{α:Type}{p:α->Bool}{l:List α}{i:Nat}(h:i<l.length)(h2:¬p l[i]=true):l.all p=false:=by
 rw[b2,Ne,W];exactλa=>h2 (a _ (Z h))
theorem EX{m:Int}(h:1<=m/\m<=3):([0,1,2,3]:List Int)[m.toNat]? =some m:=by
 have:m=1\/m=2\/m=3:=by omega
 rcases this with rfl|rfl|rfl<;>rfl
theorem KT(l:List Ob)(o:Ob)(ho:∀e∈o.entries,1<=e.mode/\e.mode<=3):aa Tryz.prog 271 [.c (.bp [.bs 6 Ob an l]),.st (iG o)] [] (Rt (.c (.bool (fg l o))) []):=by
 refine kQ (n:=49) (n0:=0) tabOk Tryz.call271 Tryz.func271 ?_;intro hb;have p:o.entries.length<=9223372036854775807:=hb.1.2.1.2.2.1;have q:o.parents.length<=9223372036854775807:=hb.1.2.1.2.2.2.2.1;refine XM.seq ?_;skip;refine XM.join (ι:=Unit) (λ_=>⟨[(0,.c (.bp [.bs 6 Ob an l])),(3,.c (.ptr 0 0))],[.box (iG o)]⟩) (λ_=>(o.entries.all λe=>decide (kindOf l e.id=e.mode))=true) ?_ (λ_ g=>?_)
 ·refine lp Nat (λi=>⟨[(0,.c (.bp [.bs 6 Ob an l])),(3,.c (.ptr 0 0)),(10,.c (.bs 4 aI cM o.entries)),(11,.c (.int .i64 o.entries.length)),(12,.c (.int .i64 i))],[.box (iG o)]⟩) (λi=>i<=o.entries.length/\(o.entries.take i).all (λe=>decide (kindOf l e.id=e.mode))=true) (λi=>o.entries.length-i) 0 [] [.s 0] ?_ ?_ (λi b=>?_)
  ·simp
  ·repeat' first|exact trivial|exact rfl|refine And.intro ?_ ?_
  refine dec (λd=>?_) (λd=>?_)
  ·have a:i<o.entries.length:=by omega
   have f:=ho _ (Z a);repeat'((conv=>whnf);first|refine⟨_,_,rfl,M (by omega),?_⟩|fail)
   refine⟨false,.grow,(.alt [0,1,2,5,6] [3,4] λj=>bif a5 j 3 then(.l [4,7,8,9])else bif a5 j 4 then(.l [7,8,3,9])else .l []),by kernel_rfl,.inl ?_⟩;refine⟨?_,?_⟩
   ·refine cl [] [] (pA l o.entries[i].id) ?_;skip;refine⟨[0,1,2,3],rfl,?_⟩;refine⟨o.entries[i].mode.toNat,⟨by omega,by simp only[T,U];omega⟩,?_⟩;refine⟨_,EX f,?_⟩;repeat'((conv=>whnf);first|(refine ay (λh=>?_) (λh=>?_)<;>try contradiction)|refine⟨i64 (by omega) (by omega),?_⟩|refine aL ?_|fail)
    ·unfold fg;rw[u6 (l:=o.entries) a (by simpa using h)];simp
    ·refine ag (i+1) [] [.s 0] ⟨a,u7 a b.2 (by simpa using h)⟩ (by simp only[];omega) ?_;repeat' first|exact trivial|exact rfl|refine And.intro ?_ ?_
   ·refine⟨[0,1,2,3],rfl,?_⟩;refine⟨o.entries[i].mode.toNat,⟨by omega,by simp only[T,U];omega⟩,?_⟩;refine⟨_,EX f,?_⟩;refine cl [] [] (pA l o.entries[i].id) ?_;repeat'((conv=>whnf);first|(refine ay (λh=>?_) (λh=>?_)<;>try contradiction)|refine⟨i64 (by omega) (by omega),?_⟩|refine aL ?_|fail)
    ·unfold fg;rw[u6 (l:=o.entries) a (by simpa using h)];simp
    ·refine ag (i+1) [] [.s 0] ⟨a,u7 a b.2 (by simpa using h)⟩ (by simp only[];omega) ?_;repeat' first|exact trivial|exact rfl|refine And.intro ?_ ?_
  ·have:=b.2;rw[S (by omega)]at this;refine⟨(),this,[],[.s 0],?_⟩;repeat' first|exact trivial|exact rfl|refine And.intro ?_ ?_
 refine XM.join (ι:=Unit) (λ_=>⟨[(0,.c (.bp [.bs 6 Ob an l])),(3,.c (.ptr 0 0))],[.box (iG o)]⟩) (λ_=>(o.parents.all λk=>decide (kindOf l k=3))=true) ?_ (λ_ m=>?_)
 ·refine lp Nat (λi=>⟨[(0,.c (.bp [.bs 6 Ob an l])),(3,.c (.ptr 0 0)),(28,.c (.bs 1 Int encI o.parents)),(29,.c (.int .i64 o.parents.length)),(30,.c (.int .i64 i))],[.box (iG o)]⟩) (λi=>i<=o.parents.length/\(o.parents.take i).all (λk=>decide (kindOf l k=3))=true) (λi=>o.parents.length-i) 0 [] [.s 0] ?_ ?_ (λi b=>?_)
  ·simp
  ·repeat' first|exact trivial|exact rfl|refine And.intro ?_ ?_
  refine dec (λd=>?_) (λd=>?_)
  ·have a:i<o.parents.length:=by omega
   repeat'((conv=>whnf);first|refine⟨_,_,rfl,M (by omega),?_⟩|fail)
   refine cl [] [] (pA l o.parents[i]) ?_;repeat'((conv=>whnf);first|(refine ay (λh=>?_) (λh=>?_)<;>try contradiction)|refine⟨i64 (by omega) (by omega),?_⟩|refine aL ?_|fail)
   ·unfold fg;rw[u6 (l:=o.parents) a (by simpa using h)];simp
   ·refine ag (i+1) [] [.s 0] ⟨a,u7 a b.2 (by simpa using h)⟩ (by simp only[];omega) ?_;repeat' first|exact trivial|exact rfl|refine And.intro ?_ ?_
  ·have:=b.2;rw[S (by omega)]at this;refine⟨(),this,[],[.s 0],?_⟩;repeat' first|exact trivial|exact rfl|refine And.intro ?_ ?_
 refine XM.of ?_;have r:fg l o=(!decide (o.kind=3)||decide (kindOf l o.tree=2)):=by unfold fg;rw[g,m];rfl
 rw[r];repeat'((conv=>whnf);first|(refine ay (λh=>?_) (λh=>?_)<;>try contradiction)|refine aL ?_|fail)
 ·simp[h]
 ·refine cl [] [] (pA l o.tree) ?_;repeat'((conv=>whnf);first|refine aL ?_|fail)
  simp[h]
end Go.Nest
end
section
namespace Go.Nest
open Go Go.AM
theorem IV{p:Option (List UInt8)}{e:aI}(h:gP p e=0):bP e.name=0/\(1<=e.mode/\e.mode<=3)/\0<=e.id/\(0<=e.ax/\e.ax<4)/\(e.mode=3\/e.ax=0):=by
 unfold gP at h;split at h
 ·exact absurd h ‹_›
 split at h
 ·cases h
 split at h
 ·cases h
 split at h
 ·cases h
 refine⟨?_,?_,?_,?_,?_⟩<;>omega
theorem qL:∀{l:List aI} {p:Option (List UInt8)},eA p l=0->∀e∈l,bP e.name=0/\(1<=e.mode/\e.mode<=3)/\0<=e.id/\(0<=e.ax/\e.ax<4)/\(e.mode=3\/e.ax=0)
 |[],_,_,e,he=>by cases he
 |x::l,p,h,e,he=>by
  unfold eA at h;split at h
  ·rename_i a;rcases List.mem_cons.1 he with rfl|he
   ·exact IV a
   ·exact qL h e he
  ·exact absurd h ‹_›
structure j6(o:Ob):Prop where
 k1:1<=o.kind
 k3:o.kind<=3
 bytes:o.bytes.length<=400
 text:o.text.length<=60
 parents:o.parents.length<=3
 entries:o.entries.length<=60
 nb:o.kind≠1->o.bytes=[]
 ne:o.kind≠2->o.entries=[]
 nc:o.kind≠3->o.tree=0/\o.parents=[]/\o.text=[]
 tree:0<=o.tree
 par:∀k∈o.parents,0<=k
 txt:o.text.all shown=true
 ents:eA none o.entries=0
theorem tz{α:Type}{l:List α}(h:¬0<l.length):l=[]:=a1 (by omega)
theorem rk{o:Ob}(h:ca o=0):j6 o:=by
 simp only[ca]at h;split at h
 ·cases h
 split at h
 ·cases h
 split at h
 ·cases h
 split at h
 ·cases h
 split at h
 ·cases h
 split at h
 ·cases h
 split at h
 ·unfold nV at h;split at h
  ·cases h
  rename_i d e f g i b c j;refine⟨by omega,by omega,by omega,by omega,by omega,by omega,λa=>tz (by omega),λa=>tz (by omega),λa=>⟨by omega,tz (by omega),tz (by omega)⟩,by omega,λk a=>?_,c,h⟩;rw[Bool.not_eq_true,al]at b;have:=b k a;simpa using this
 ·cases h
theorem j6.xy{o:Ob}(h:j6 o):∀e∈o.entries,1<=e.mode/\e.mode<=3:=λe a=>(qL h.ents e a).2.1
inductive ak:List Ob->Prop
 |nil:ak []
 |snoc {l:List Ob} {o:Ob} (h:ak l) (ho:ca o=0) (hl:fg l o=true) (hn:o∉l) (hlen:l.length<600):ak (l++[o])
theorem ak.len{l:List Ob}(h:ak l):l.length<=600:=by
 cases h with
 |nil=>simp
 |snoc _ _ _ _ h=>simp;omega
theorem ak.mem{l:List Ob}(h:ak l):∀o∈l,j6 o:=by
 induction h with
 |nil=>intro o a;cases a
 |snoc _ a _ _ _ ih=>
  intro u hu;rcases Q.1 hu with hu|hu
  ·exact ih u hu
  ·rw[R]at hu;subst hu;exact rk a
def aB(l:List Ob)(o:Ob):Int×Int×List Ob:=
 if ca o≠0 then(0,ca o,l)else if fg l o=false then(0,14,l)else if 0<=bD (λx=>decide (x=o)) l then(bD (λx=>decide (x=o)) l,0,l)
 else if l.length=600 then(0,15,l)else(l.length,0,l++[o])
theorem JS{α:Type}{p:α->Bool}{l:List α}(h:¬0<=bD p l):l.any p=false:=by rw[<-pv];simpa using h
theorem jP{l:List Ob}(h:ak l)(o:Ob):ak (aB l o).2.2:=by
 unfold aB;split
 ·exact h
 split
 ·exact h
 split
 ·exact h
 split
 ·exact h
 rename_i a b c e;refine .snoc h (by simpa using a) (by simpa using b) ?_ (by have:=h.len;omega);have:=JS c;rw[al]at this;intro d;simpa using this o d
def aj(l:List Ob)(id:Int):Ob:=if id<0 then nJ else(l[id.toNat]?).getD nJ
theorem lZ{l:List Ob}{id:Int}(h:¬id<0)(h2:id.toNat<l.length):aj l id=l[id.toNat]:=by
 unfold aj;rw[if_neg h,M h2];rfl
theorem fQ{l:List Ob}{id:Int}:(aj l id).kind=kindOf l id:=by
 unfold aj kindOf;split
 ·rfl
 ·cases l[id.toNat]? <;>rfl
theorem dC{l:List Ob}{id:Int}(h:¬kindOf l id=0):¬id<0/\id.toNat<l.length:=by
 by_cases a:id<0
 ·exact absurd (Cp a).symm h
 ·refine⟨a,?_⟩;by_cases b:(l.length:Int)<=id
  ·exact absurd (Co b).symm h
  ·omega
theorem ak.get{l:List Ob}(h:ak l){id:Int}(h1:¬kindOf l id=0):j6 (aj l id):=by
 obtain⟨b,a⟩:=dC h1;rw[lZ b a];exact h.mem _ (Z a)
theorem ak.nw{l:List Ob}(h:ak l){id:Int}(h1:kindOf l id=0):aj l id=nJ:=by
 unfold aj;split
 ·rfl
 ·cases a:l[id.toNat]? with
  |none=>rfl
  |some o=>
   exfalso;have:=(h.mem o (List.mem_of_getElem? a)).k1;unfold kindOf at h1;rw[if_neg ‹_›,a]at h1;simp at h1;omega
def dI(l:List Ob)(id:Int):List Int:=((aj l id).entries.filter λe=>decide (e.mode≠3)).map (·.id)++((if(aj l id).kind=3 then[(aj l id).tree]else[])++(aj l id).parents)
theorem Dd{l:List Ob}(h:ak l)(id:Int):(dI l id).length<=64:=by
 unfold dI;by_cases a:kindOf l id=0
 ·rw[h.nw a];simp[nJ]
 ·have:=h.get a;have c:=this.entries;have d:=this.parents;have b:=ac (λe:aI=>decide (e.mode≠3)) (aj l id).entries;rw[N,N,ap];split<;>simp<;>simp at b<;>omega
inductive cA(l:List Ob)(ids:List Int):Int->Prop
 |base {k:Int} (h:k∈ids) (hk:¬kindOf l k=0):cA l ids k
 |step {j k:Int} (h:cA l ids j) (hk:k∈dI l j):cA l ids k
theorem pz{l m:List Ob}{k:Int}(h:¬kindOf l k=0):kindOf (l++m) k=kindOf l k:=by
 obtain⟨a,b⟩:=dC h;unfold kindOf;rw[if_neg a,if_neg a,a4 b]
theorem Qj{l:List Ob}{o:Ob}:kindOf (l++[o]) l.length=o.kind:=by
 unfold kindOf;rw[if_neg (by omega)];simp
theorem BP{l m:List Ob}{k:Int}(h2:k<l.length):aj (l++m) k=aj l k:=by
 unfold aj;split
 ·rfl
 ·rw[a4 (by omega)]
theorem wI{l:List Ob}{o:Ob}:aj (l++[o]) l.length=o:=by
 unfold aj;rw[if_neg (by omega)];simp
theorem L8{l m:List Ob}{k:Int}(h2:k<l.length):dI (l++m) k=dI l k:=by unfold dI;rw[BP h2]
theorem LD{l:List Ob}{j k:Int}(h:k∈dI l j):(∃e∈(aj l j).entries,e.mode≠3/\e.id=k)\/((aj l j).kind=3/\k=(aj l j).tree)\/k∈(aj l j).parents:=by
 unfold dI at h;rw[Q,Q,b0]at h;rcases h with⟨e,a,h⟩|h|h
 ·rw[ar]at a;exact .inl ⟨e,a.1,by simpa using a.2,h⟩
 ·split at h
  ·rw[R]at h;exact .inr (.inl ⟨‹_›,h⟩)
  ·cases h
 ·exact .inr (.inr h)
theorem KS{l:List Ob}{o:Ob}(ho:j6 o)(hl:fg l o=true){j k:Int}(hj:aj (l++[o]) j=o)(h:k∈dI (l++[o]) j):¬kindOf l k=0:=by
 unfold fg at hl;rw[ad,ad,W,W]at hl;have:=LD h;rw[hj]at this;rcases this with⟨e,b,h1,rfl⟩|⟨h1,rfl⟩|h1
 ·have a:=hl.1 e b;have c:=ho.xy e b;rw[decide_eq_true_iff]at a;omega
 ·have a:=hl.2.2;simp[h1]at a;omega
 ·have a:=hl.2.1 k h1;rw[decide_eq_true_iff]at a;omega
theorem xD{l:List Ob}(hl:ak l){j k:Int}(h:k∈dI l j):¬kindOf l k=0/\k<j:=by
 induction hl with
 |nil=>unfold dI aj at h;split at h<;>simp[nJ]at h
 | @snoc l o n g c m e ih=>
  by_cases f:j<l.length
  ·rw[L8 f]at h;obtain⟨a,d⟩:=ih h;exact⟨by rw[pz a];exact a,d⟩
  ·by_cases b:j=l.length
   ·subst b;have a:=KS (rk g) c wI h;obtain⟨d,i⟩:=dC a;exact⟨by rw[pz a];exact a,by omega⟩
   ·exfalso
    have:aj (l++[o]) j=nJ:=by
     unfold aj;rw[if_neg (by omega),bi (by rw[N,bj];omega)];rfl
    unfold dI at h;rw[this]at h;simp[nJ]at h
theorem cA.kind{l:List Ob}{ids:List Int}(hl:ak l){k:Int}(h:cA l ids k):¬kindOf l k=0:=by
 cases h with
 |base _ a=>exact a
 |step _ a=>exact(xD hl a).1
noncomputable def bc(l:List Ob)(ids:List Int):List Int:=((cf l.length).filter λk:Nat=> @decide (cA l ids (k:Int)) (Y _)).map λk:Nat=>(k:Int)
def Mk(vis:List Bool)(k:Int):Prop:=∃n:Nat,k=n/\vis[n]? =some true
def nM(vis:List Bool)(i:Nat):List Int:=((cf i).filter λk:Nat=>(vis[k]?).getD false).map λk:Nat=>(k:Int)
theorem MD{vis:List Bool}{i:Nat}(h:i<vis.length):nM vis (i+1)=nM vis i++(if vis[i]=true then[(i:Int)]else[]):=by
 unfold nM;rw[List.range_succ,b1,ch];congr 1
 cases a:vis[i]<;>simp[M h,a]
theorem MB{vis:List Bool}{i:Nat}:(nM vis i).length<=i:=by
 unfold nM;rw[ap];exact a9 (ac _ _) (by simp)
theorem MC{l:List Ob}{ids:List Int}{vis:List Bool}(hv:vis.length=l.length)(h:∀k,Mk vis k↔cA l ids k):nM vis l.length=bc l ids:=by
 unfold nM bc;congr 1
 refine List.filter_congr λk c=>?_;rw[bk]at c;have:=h k;rw[ce,@decide_eq_true_iff _ (Y _),<-this];unfold Mk;constructor
 ·intro a;refine⟨k,rfl,?_⟩;rw[M (by omega)]at a⊢;simpa using a
 ·rintro⟨n,a,b⟩;obtain rfl:k=n:=by omega
  rw[b];rfl
theorem Mk.set{vis:List Bool}{n:Nat}{k:Int}(hn:n<vis.length):Mk (vis.set n true) k↔Mk vis k\/k=n:=by
 unfold Mk;constructor
 ·rintro⟨m,rfl,h⟩;by_cases e:n=m
  ·subst e;exact .inr rfl
  ·rw[bn e]at h;exact .inl ⟨m,rfl,h⟩
 ·rintro(⟨m,rfl,h⟩|rfl)
  ·by_cases e:n=m
   ·subst e;exact⟨n,rfl,by rw[be hn]⟩
   ·exact⟨m,rfl,by rw[bn e];exact h⟩
  ·exact⟨n,rfl,by rw[be hn]⟩
theorem count_set:∀{vis:List Bool} {n:Nat},vis[n]? =some false->(vis.set n true).count true=vis.count true+1
 |b::v,0,h=>by simp at h;subst h;simp
 |b::v,n+1,h=>by
  simp at h;rw[List.set_cons_succ,ci,ci,count_set h];omega
theorem cA.of_closed{l:List Ob}{ids:List Int}{vis:List Bool}(h1:∀k∈ids,¬kindOf l k=0->Mk vis k)(h2:∀j,Mk vis j->∀k∈dI l j,Mk vis k){k:Int}(h:cA l ids k):Mk vis k:=by
 induction h with
 |base h a=>exact h1 _ h a
 |step _ a ih=>exact h2 _ ih _ a
theorem Dh{n:Nat}{k:Int}:¬Mk (bl n false) k:=by
 rintro⟨m,rfl,h⟩;rw[List.getElem?_replicate]at h;split at h<;>cases h
theorem ak.nodup{l:List Ob}(h:ak l):l.Nodup:=by
 induction h with
 |nil=>exact List.nodup_nil
 |snoc _ _ _ d _ ih=>
  rw[b3];exact⟨ih,by simp,λa c b hb=>by rw[R]at hb;subst hb;intro e;subst e;exact d c⟩
theorem CA{l m:List Ob}{o:Ob}(ho:j6 o)(h:fg l o=true):fg (l++m) o=true:=by
 unfold fg at h⊢;rw[ad,ad,W,W]at h⊢;refine⟨λe c=>?_,λk d=>?_,?_⟩
 ·have a:=h.1 e c;have f:=ho.xy e c;rw[decide_eq_true_iff]at a⊢;rw[pz (by omega)];exact a
 ·have a:=h.2.1 k d;rw[decide_eq_true_iff]at a⊢;rw[pz (by omega)];exact a
 ·have a:=h.2.2;by_cases b:o.kind=3
  ·simp[b]at a⊢;rw[pz (by omega)];exact a
  ·simp[b]
theorem ak.obj{l:List Ob}(h:ak l):∀o∈l,ca o=0/\fg l o=true:=by
 induction h with
 |nil=>intro o a;cases a
 |snoc c a b _ _ ih=>
  intro u hu;rcases Q.1 hu with hu|hu
  ·exact⟨(ih u hu).1,CA (rk (ih u hu).1) (ih u hu).2⟩
  ·rw[R]at hu;subst hu;exact⟨a,CA (rk a) b⟩
theorem DQ{l:List Ob}(h:ak l){k:Nat}(hk:k<l.length):aB l l[k]=((k:Int),0,l):=by
 obtain⟨b,c⟩:=h.obj _ (Z hk)
 have d := jG (p := λx => decide (x = l[k])) hk (by
  rw[al];intro x f a;rw[decide_eq_true_iff]at a;subst a;obtain⟨j,g,e⟩:=a2.1 f;have:=(List.getElem_inj h.nodup).1 e;omega) (by simp)
 unfold aB;rw[if_neg (by simpa using b),if_neg (by simp[c]),if_pos (by omega),<-d]
theorem jf{l:List Ob}{ids:List Int}(hl:ak l){k:Int}:k∈bc l ids↔cA l ids k:=by
 unfold bc;rw[b0];constructor
 ·rintro⟨n,a,rfl⟩;rw[ar]at a;exact(@decide_eq_true_iff _ (Y _)).1 a.2
 ·intro h;obtain⟨a,b⟩:=dC (h.kind hl);refine⟨k.toNat,ar.2 ⟨by rw[bk];exact b,?_⟩,by omega⟩;rw[show((k.toNat:Nat):Int)=k by omega];exact(@decide_eq_true_iff _ (Y _)).2 h
theorem pR{l:List Ob}{ids:List Int}:(bc l ids).Pairwise (· < ·):=by
 unfold bc;rw[b4];have:=(bh (n:=l.length)).filter (λk:Nat=> @decide (cA l ids (k:Int)) (Y _));exact this.imp (λh=>by omega)
theorem pQ{l:List Ob}{ids:List Int}:(bc l ids).length<=l.length:=by
 unfold bc;rw[ap];exact a9 (ac _ _) (by simp)
theorem KU{l:List Ob}{ids:List Int}(hl:ak l){k:Int}(h:cA l ids k):k∈ids\/∃j∈bc l ids,k∈dI l j:=by
 cases h with
 |base h _=>exact .inl h
 |step h a=>exact .inr ⟨_,(jf hl).2 h,a⟩
end Go.Nest
end
section
namespace Go.Nest
open Go Go.AM Go.Proofs
open Go.Proofs.YtpechfcbnoggfaaGreatDoor (tab tabOk)
set_option maxRecDepth 4000
theorem yL(n:Int):IntKind.u64.wrap n=n%18446744073709551616:=by
 unfold IntKind.wrap;simp[IntKind.bits,IntKind.signed]
theorem PI{n:Int}(a:0<=n)(h:n<=9223372036854775807):IntKind.i64.wrap n=n:=by
 have e:n%18446744073709551616=n:=Int.emod_eq_of_lt a (by omega);unfold IntKind.wrap;simp only[IntKind.bits,IntKind.signed];show(if(true&&decide (n%18446744073709551616>=9223372036854775808))=true then n%18446744073709551616-18446744073709551616 else n%18446744073709551616)=n;rw[e,if_neg (by simp;omega)]
theorem PJ{n:Nat}(a:n≠0)(h:n<=9223372036854775807):IntKind.u64.wrap n≠0:=by rw[yL];omega
theorem NC{k:Int}{n:Nat}(c:n≠0)(h:n<=9223372036854775807):IntKind.i64.wrap ((IntKind.u64.wrap k).tmod (IntKind.u64.wrap n))=((k%18446744073709551616%n).toNat:Nat)/\(k%18446744073709551616%n).toNat<n:=by
 have e:(n:Int)%18446744073709551616=n:=Int.emod_eq_of_lt (by omega) (by omega);have a:0<=k%18446744073709551616:=Int.emod_nonneg _ (by decide);have b:0<=k%18446744073709551616%n:=Int.emod_nonneg _ (by omega);have d:k%18446744073709551616%n<n:=Int.emod_lt_of_pos _ (by omega);rw[yL,yL,e,Int.tmod_eq_emod_of_nonneg a,PI b (by omega)];omega
theorem L7:aa Tryz.prog 49 [] [] (Rt (.c (.ptr 0 0)) [.box [.rw 1],.row 6 Ob an []]):=by
 refine af (n:=3) (n0:=0) tabOk Tryz.call49 Tryz.func49 ?_;intro hb;exact rx [] [.s 0,.new]
theorem ft(l:List Ob)(hl:ak l)(id:Int):aa Tryz.prog 166 [.c (.bp [.bs 6 Ob an l]),.c (.int .i64 id)] [] (Rt (.ao [(true,an (aj l id)),(false,[.bool (decide (kindOf l id≠0))])]) []):=by
 refine af (n:=19) (n0:=0) tabOk Tryz.call166 Tryz.func166 ?_;intro hb;skip;refine cl [] [] (pA l id) ?_;repeat'((conv=>whnf);first|(refine dec (λh=>?_) (λh=>?_)<;>try contradiction)|fail)
 ·rw[hl.nw h,h];exact rx [] []
 ·obtain⟨d,b⟩:=dC h;have a:=hl.get h;rw[show decide (kindOf l id≠0)=true from decide_eq_true h];rw[lZ d b]at a⊢;refine⟨id.toNat,l[id.toNat],by omega,M b,?_⟩;skip;refine cl [] [] (DE l[id.toNat] (by have:=a.bytes;omega) (by have:=a.entries;omega) (by have:=a.parents;omega)) ?_;exact rx [] []
theorem Jk{es:List aI}{i:Nat}(h:i<es.length):((es.take (i+1)).filter λe=>decide (e.mode≠3)).map (·.id)=((es.take i).filter λe=>decide (e.mode≠3)).map (·.id)++(if es[i].mode=3 then[]else[es[i].id]):=by
 rw[P h,b1,ch];congr 1
 by_cases a:es[i].mode=3<;>simp[a]
theorem Bs{es:List aI}{i:Nat}(h:es.length<=60):(((es.take i).filter λe=>decide (e.mode≠3)).map (·.id)).length<=60:=by
 rw[ap];refine a9 (ac _ _) ?_;rw[List.length_take];omega
theorem L9(l:List Ob)(hl:ak l)(id:Int):aa Tryz.prog 104 [.c (.bp [.bs 6 Ob an l]),.c (.int .i64 id)] [] (Rt (.c (.rw 0)) [.row 1 Int encI (dI l id)]):=by
 refine kQ (n:=46) (n0:=0) tabOk Tryz.call104 Tryz.func104 ?_;intro hb;refine XM.seq ?_;skip;refine XM.seq ?_;skip;refine cl [] [] (ft l hl id) ?_;skip;refine XM.seq ?_;repeat'((conv=>whnf);first|(refine ay (λh=>?_) (λh=>?_)<;>try contradiction)|fail)
 ·(conv=>whnf);rw[show dI l id=[]by unfold dI;rw[hl.nw (cr.1 h)];rfl];exact rx [] [.new]
 have d:=hl.get h;have k:=d.entries;refine XM.seq ?_;skip;refine XM.join (ι:=Unit) (λ_=>⟨[(5,.c (.ptr 0 0)),(7,.c (.rw 1))],[.box (an (aj l id)),.row 1 Int encI (((aj l id).entries.filter λe=>decide (e.mode≠3)).map (·.id))]⟩) (λ_=>True) ?_ (λ_ _=>?_)
 ·refine lp Nat (λi => ⟨[(5,.c (.ptr 0 0)),(7,.c (.rw 1)),(19,.c (.bs 4 aI cM (aj l id).entries)),(20,.c (.int .i64 (aj l id).entries.length)),(21,.c (.int .i64 i))],
   [.box (an (aj l id)),.row 1 Int encI ((((aj l id).entries.take i).filter λe=>decide (e.mode≠3)).map (·.id))]⟩) (λi=>i<=(aj l id).entries.length/\True) (λi=>(aj l id).entries.length-i) 0 [] [.s 0,.new] ?_ ?_ (λi m=>?_)
  ·exact⟨cq _,trivial⟩
  ·repeat' first|exact trivial|exact rfl|refine And.intro ?_ ?_
  refine dec (λg=>?_) (λg=>?_)
  ·have a:i<(aj l id).entries.length:=by omega
   have f:=Jk a;have b:=Bs (i:=i) d.entries;repeat'((conv=>whnf);first|(refine ay (λh=>?_) (λh=>?_)<;>try contradiction)|refine⟨i64 (by omega) (by omega),?_⟩|refine⟨_,_,rfl,M (by omega),?_⟩|fail)
   ·rw[if_neg h]at f;refine⟨[(aj l id).entries[i].id],rfl,?_⟩;refine⟨_,_,rfl,rfl,(by simp only[N,T,U];omega),?_⟩;repeat'(refine I6 ?_)
    refine ag (i+1) [] [.s 0,.s 4] ⟨a,trivial⟩ (by simp only[];omega) ?_;repeat' first|exact trivial|exact rfl|refine And.intro ?_ ?_
    rw[f];exact rfl
   ·rw[if_pos h,bb]at f;skip;refine ag (i+1) [] [.s 0,.s 1] ⟨a,trivial⟩ (by simp only[];omega) ?_;repeat' first|exact trivial|exact rfl|refine And.intro ?_ ?_
    rw[f];exact rfl
  ·have:(aj l id).entries.take i=(aj l id).entries:=S (by omega);rw[this];refine⟨(),trivial,[],[.s 0,.s 1],?_⟩;repeat' first|exact trivial|exact rfl|refine And.intro ?_ ?_
 have b:=Bs (i:=(aj l id).entries.length) d.entries;rw[cb]at b;have o:=d.parents;refine XM.join (ι:=Unit) (λ_=>⟨[(5,.c (.ptr 0 0)),(7,.c (.rw 1))],[.box (an (aj l id)),.row 1 Int encI (((aj l id).entries.filter λe=>decide (e.mode≠3)).map (·.id)++(if(aj l id).kind=3 then[(aj l id).tree]else[]))]⟩) (λ_=>True) ?_ (λ_ _=>?_)
 ·repeat'((conv=>whnf);first|(refine dec (λh=>?_) (λh=>?_)<;>try contradiction)|fail)
  ·refine⟨[(aj l id).tree],rfl,?_⟩;refine⟨_,_,rfl,rfl,(by simp only[N,T,U];omega),?_⟩;(conv=>whnf);rw[if_pos ‹(aj l id).kind=3›];refine⟨(),trivial,[],[.s 0,.s 3],?_⟩;repeat' first|exact trivial|exact rfl|refine And.intro ?_ ?_
  ·(conv=>whnf);rw[if_neg ‹¬(aj l id).kind=3›,bb];refine⟨(),trivial,[],[.s 0,.s 1],?_⟩;repeat' first|exact trivial|exact rfl|refine And.intro ?_ ?_
 have j:(if(aj l id).kind=3 then[(aj l id).tree]else[]).length<=1:=by split<;>simp
 refine XM.of ?_;refine⟨_,_,rfl,rfl,(by simp only[N,T,U];omega),?_⟩;(conv=>whnf);rw[show dI l id=_ from(List.append_assoc _ _ _).symm];exact rx [] [.s 2]
theorem MW(x o:Ob):aa Tryz.prog 273 [.st (iG x),.c (.bp (iG o))] [] (Rt (.c (.bool (decide (x=o)))) []):=by
 refine af (n:=7) (n0:=0) tabOk Tryz.call273 Tryz.func273 ?_;intro hb;refine cl [] [] (N0 x o) ?_;repeat'((conv=>whnf);first|refine aL ?_|fail)
 rfl
theorem Kg(l:List Ob)(o:Ob):aa Tryz.prog 272 [.c (.bs 6 Ob an l),.c (.fn 273 [.bp (iG o)])] [] (Rt (.c (.int .i64 (bD (λx=>decide (x=o)) l))) []):=by
 refine af (n:=19) (n0:=0) tabOk Tryz.call272 Tryz.func272 ?_;intro hb;have hb:l.length<=9223372036854775807:=hb.1.1;refine lp Nat (λi=>⟨[(0,.c (.bs 6 Ob an l)),(1,.c (.fn 273 [.bp (iG o)])),(7,.c (.int .i64 l.length)),(8,.c (.int .i64 i))],[]⟩) (λi=>i<=l.length/\(l.take i).any (λx=>decide (x=o))=false) (λi=>l.length-i) 0 [] [] ?_ ?_ (λi b=>?_)
 ·simp
 ·repeat' first|exact trivial|exact rfl|refine And.intro ?_ ?_
 refine dec (λd=>?_) (λd=>?_)
 ·have a:i<l.length:=by omega
  repeat'((conv=>whnf);first|refine⟨_,_,rfl,M (by omega),?_⟩|fail)
  refine cl [] [] (MW l[i] o) ?_;repeat'((conv=>whnf);first|(refine dec (λh=>?_) (λh=>?_)<;>try contradiction)|refine⟨i64 (by omega) (by omega),?_⟩|refine aJ ?_|fail)
  ·exact jG a b.2 (by simpa using h)
  ·refine ag (i+1) [] [] ⟨a,ij a b.2 (by simpa using h)⟩ (by simp only[];omega) ?_;repeat' first|exact trivial|exact rfl|refine And.intro ?_ ?_
 ·repeat'((conv=>whnf);first|refine aJ ?_|fail)
  have:=b.2;rw[S (by omega)]at this;exact ky this
theorem rC(l:List Ob)(o:Ob)(hl:l.length<=600):aa Tryz.prog 203 [.c (.ptr 0 0),.st (iG o)] [.box [.rw 1],.row 6 Ob an l] (Rt (.ao [(false,[.int .i64 (aB l o).1]),(false,[.int .i64 (aB l o).2.1])]) [.box [.rw 2],.dead,.row 6 Ob an (aB l o).2.2]):=by
 refine kQ (n:=49) (n0:=2) tabOk Tryz.call203 Tryz.func203 ?_;intro hb;refine XM.seq ?_;skip;refine XM.seq ?_;refine cl [] [] (Hu o) ?_;repeat'((conv=>whnf);first|(refine ay (λh=>?_) (λh=>?_)<;>try contradiction)|fail)
 ·have a:aB l o=(0,ca o,l):=by unfold aB;rw[if_pos h]
  rw[a];exact rx [] [.s 0,.s 1,.s 1]
 have b:ca o=0:=by simpa using h
 have e:=rk b;refine XM.seq ?_;skip;refine cl [] [] (KT l o e.xy) ?_;repeat'((conv=>whnf);first|refine dB (λh=>?_) (λh=>?_)|fail)
 ·have a:aB l o=(0,14,l):=by unfold aB;rw[if_neg (by simpa using b),if_pos h]
  rw[a];exact rx [] [.s 0,.s 1,.s 1]
 have f:=h;refine XM.seq ?_;skip;refine cl [] [] (Kg l o) ?_;repeat'((conv=>whnf);first|(refine dec (λh=>?_) (λh=>?_)<;>try contradiction)|fail)
 ·have d:=h;have a:aB l o=(bD (λx=>decide (x=o)) l,0,l):=by unfold aB;rw[if_neg (by simpa using b),if_neg (by simp[f]),if_pos d]
  rw[a];exact rx [] [.s 0,.s 1,.s 1]
 have d:=h;refine XM.seq ?_;repeat'((conv=>whnf);first|(refine dec (λh=>?_) (λh=>?_)<;>try contradiction)|fail)
 ·have g:=h;have a:aB l o=(0,15,l):=by unfold aB;rw[if_neg (by simpa using b),if_neg (by simp[f]),if_neg d,if_pos (by omega)]
  rw[a];exact rx [] [.s 0,.s 1,.s 1]
 have g:=h;have a:aB l o=(((l++[o]).length:Int)-1,0,l++[o]):=by unfold aB;rw[if_neg (by simpa using b),if_neg (by simp[f]),if_neg d,if_neg (by omega)];simp
 rw[a];refine XM.of ?_;refine⟨false,.grow,(.l [0,1,2,3,4,5,6,7,8,9,10,11]),by kernel_rfl,.inl ?_⟩;skip;refine cl [] [] (DE o (by have:=e.bytes;omega) (by have:=e.entries;omega) (by have:=e.parents;omega)) ?_;refine⟨[o],rfl,?_⟩;refine⟨_,_,rfl,rfl,(by simp only[N,T,U];omega),?_⟩;have i:(l++[o]).length<=600:=by rw[N,bj];omega
 repeat'(refine I6 ?_)
 exact rx [] [.s 0,.s 1,.s 4]
structure iO(l:List Ob)(ids:List Int)(vis:List Bool)(todo:List Int):Prop where
 len:vis.length=l.length
 sound:∀k,Mk vis k->cA l ids k
 td:∀k∈todo,¬kindOf l k=0->cA l ids k
 base:∀k∈ids,¬kindOf l k=0->k∈todo\/Mk vis k
 clos:∀j,Mk vis j->∀k∈dI l j,k∈todo\/Mk vis k
 size:todo.length<=ids.length+64*vis.count true
def kn(todo:List Int):List Int:=(todo.drop 0).take (todo.length-1-0)
theorem E0{todo:List Int}(h:0<todo.length):todo=kn todo++[todo[todo.length-1]'(by omega)]:=by
 unfold kn;rw[List.drop_zero,Nat.sub_zero];have:=P (l:=todo) (i:=todo.length-1) (by omega);rw[<-this,Nat.sub_add_cancel (by omega),cb]
theorem qG{todo:List Int}:(kn todo).length=todo.length-1:=by unfold kn;simp
theorem iO.skip{l:List Ob}(hl:ak l){ids:List Int}{vis:List Bool}{todo:List Int}(h:iO l ids vis todo)(f:0<todo.length){id:Int}(hid:id=todo[todo.length-1]'(by omega))(hk:kindOf l id=0\/Mk vis id):
  iO l ids vis (kn todo):=by
 have e:=E0 f;rw[<-hid]at e;refine⟨h.len,h.sound,λk b=>h.td k (by rw[e];exact am _ b),λk a c=>?_,λj d k a=>?_,?_⟩
 ·rcases h.base k a c with h3|h3
  ·rw[e,Q,R]at h3;rcases h3 with h3|h3
   ·exact .inl h3
   ·subst h3;exact .inr (hk.resolve_left c)
  ·exact .inr h3
 ·rcases h.clos j d k a with h3|h3
  ·rw[e,Q,R]at h3;rcases h3 with h3|h3
   ·exact .inl h3
   ·subst h3;exact .inr (hk.resolve_left (xD hl a).1)
  ·exact .inr h3
 ·have:=h.size;rw[qG];omega
theorem iO.visit{l:List Ob}(hl:ak l){ids:List Int}{vis:List Bool}{todo:List Int}(h:iO l ids vis todo)(m:0<todo.length){id:Int}(hid:id=todo[todo.length-1]'(by omega))(hk:¬kindOf l id=0)(hm:vis[id.toNat]? =some false):
  iO l ids (vis.set id.toNat true) (kn todo++dI l id):=by
 obtain⟨n,g⟩:=dC hk;have e:=E0 m;rw[<-hid]at e;have b:cA l ids id:=h.td id (by rw[e];simp) hk
 have a:∀k,Mk (vis.set id.toNat true) k↔Mk vis k\/k=id:=λk=>by
  rw[Mk.set (by rw[h.len];exact g)];rw[show((id.toNat:Nat):Int)=id by omega]
 refine⟨by rw[co,h.len],λk c=>?_,λk c f=>?_,λk d f=>?_,λj i k d=>?_,?_⟩
 ·rcases(a k).1 c with h3|rfl
  ·exact h.sound k h3
  ·exact b
 ·rcases Q.1 c with h3|h3
  ·exact h.td k (by rw[e];exact am _ h3) f
  ·exact .step b h3
 ·rw[a,Q];rcases h.base k d f with h3|h3
  ·rw[e,Q,R]at h3;rcases h3 with h3|h3
   ·exact .inl (.inl h3)
   ·exact .inr (.inr h3)
  ·exact .inr (.inl h3)
 ·rw[a,Q];rcases(a j).1 i with h3|rfl
  ·rcases h.clos j h3 k d with h3|h3
   ·rw[e,Q,R]at h3;rcases h3 with h3|h3
    ·exact .inl (.inl h3)
    ·exact .inr (.inr h3)
   ·exact .inr (.inl h3)
  ·exact .inl (.inr d)
 ·have:=h.size;have f:=Dd hl id;rw[N,qG,count_set hm];omega
theorem iO.start{l:List Ob}{ids:List Int}:iO l ids (bl l.length false) ids:=
 ⟨by simp,λk h=>(Dh h).elim,λk a b=>.base a b,λk a _=>.inl a,λj h=>(Dh h).elim,by omega⟩
theorem iO.stop{l:List Ob}{ids:List Int}{vis:List Bool}{todo:List Int}(h:iO l ids vis todo)(d:todo.length=0):vis.length=l.length/\∀k,Mk vis k↔cA l ids k:=by
 have:todo=[]:=a1 d;subst this;exact⟨h.len,λk=>⟨h.sound k,cA.of_closed (λk a b=>(h.base k a b).resolve_left (by simp)) (λj c k a=>(h.clos j c k a).resolve_left (by simp))⟩⟩
theorem oI(l:List Ob)(hl:ak l)(ids:List Int)(hi:ids.length<=1000000):aa Tryz.prog 40 [.c (.bp [.bs 6 Ob an l]),.c (.bs 1 Int encI ids)] [] (Rt (.c (.rw 0)) [.row 1 Int encI (bc l ids)]):=by
 refine kQ (n:=66) (n0:=0) tabOk Tryz.call40 Tryz.func40 ?_;intro hb;have t:=hl.len;refine XM.seq ?_;skip;refine XM.seq ?_;refine⟨l.length,false,⟨rfl,rfl⟩,rfl,by simp only[];omega,?_⟩;skip;refine XM.seq ?_;refine cl [] [] (sG ids (by omega)) ?_;skip;refine XM.join (ι:=List Bool) (λa=>⟨[(5,.c (.rw 0))],[.row 1 Bool ai a]⟩) (λa=>a.length=l.length/\∀k,Mk a k↔cA l ids k) ?_ (λa g=>?_)
 ·refine lp (List Bool×List Int) (λ|(a,b)=>⟨[(0,.c (.bp [.bs 6 Ob an l])),(5,.c (.rw 0)),(6,.c (.rw 1))],[.row 1 Bool ai a,.row 1 Int encI b]⟩) (λx=>iO l ids x.1 x.2/\True) (λx=>65*(l.length-x.1.count true)+x.2.length) (bl l.length false,ids) [] [.s 0,.s 1] ?_ ?_ (λx d=>?_)
  ·exact⟨iO.start,trivial⟩
  ·repeat' first|exact trivial|exact rfl|refine And.intro ?_ ?_
  obtain⟨a,b⟩:=x;obtain⟨d,_⟩:=d;dsimp only at d;have f:=d.len;have F:=d.size;have z:a.count true<=a.length:=br;refine dec (λm=>?_) (λm=>?_)
  ·have v:0<b.length:=by omega
   have y:((b.drop 0).take (b.length-1-0)).length=b.length-1:=qG;refine⟨i64 (by omega) (by omega),?_⟩;refine⟨b.length-1,⟨by omega,by omega⟩,?_⟩;refine⟨b[b.length-1],M (by omega),?_⟩;generalize hid:b[b.length-1]'(by omega)=id;refine⟨i64 (by omega) (by omega),?_⟩;refine⟨0,b.length-1,rfl,by omega,by omega,?_⟩;refine cl [] [] (pA l id) ?_;(conv=>whnf);have D:=Dd hl id;have skip:kindOf l id=0\/Mk a id->65*(l.length-a.count true)+(kn b).length<65*(l.length-a.count true)+b.length/\iO l ids a (kn b):=λh=>⟨by rw[qG];omega,d.skip hl v hid.symm h⟩;refine dec (λw=>?_) (λw=>?_)
   ·obtain⟨I,J⟩:=dC (l:=l) (id:=id) (by omega);refine⟨id.toNat,⟨by omega,by omega⟩,?_⟩;refine⟨a[id.toNat],M (by omega),?_⟩;refine dB (λo=>?_) (λo=>?_)
    ·have u:a[id.toNat]? =some false:=by rw[M (by omega),o]
     have g:=d.visit hl v hid.symm (by omega) u;have H:=count_set u;have p:(a.set id.toNat true).count true<=(a.set id.toNat true).length:=br;rw[co]at p;refine⟨id.toNat,⟨by omega,by omega⟩,?_⟩;refine⟨_,true,M (by omega),⟨by decide,rfl⟩,?_⟩;refine cl [] [] (L9 l hl id) ?_;refine⟨_,_,rfl,rfl,(by simp only[N,T,U];omega),?_⟩;refine ag (a.set id.toNat true,kn b++dI l id) [] [.s 0,.s 3] ⟨g,trivial⟩ (by dsimp only;rw[N,qG];omega) ?_;repeat' first|exact trivial|exact rfl|refine And.intro ?_ ?_
    ·(conv=>whnf);obtain⟨q,r⟩:=skip (.inr ⟨id.toNat,by omega,by rw[M (by omega),o]⟩);refine ag (a,kn b) [] [.s 0,.cut 1 1 0 (b.length-1-0)] ⟨r,trivial⟩ q ?_;repeat' first|exact trivial|exact rfl|refine And.intro ?_ ?_
     omega
   ·(conv=>whnf)
    have:kindOf l id=0:=by
     by_cases s:kindOf l id=0
     ·exact s
     ·have:=(hl.get s).k1;rw[fQ]at this;omega
    obtain⟨q,r⟩:=skip (.inl this);refine ag (a,kn b) [] [.s 0,.cut 1 1 0 (b.length-1-0)] ⟨r,trivial⟩ q ?_;repeat' first|exact trivial|exact rfl|refine And.intro ?_ ?_
    omega
  ·refine⟨a,d.stop (by omega),[],[.s 0],?_⟩;repeat' first|exact trivial|exact rfl|refine And.intro ?_ ?_
 obtain⟨f,g⟩:=g;rw[<-MC f g];refine XM.seq ?_;skip;refine XM.seq ?_;refine lp Nat (λi=>⟨[(8,.c (.rw 1)),(52,.c (.rw 0)),(53,.c (.int .i64 a.length)),(54,.c (.int .i64 i))],[.row 1 Bool ai a,.row 1 Int encI (nM a i)]⟩) (λi=>i<=a.length/\True) (λi=>a.length-i) 0 [] [.s 0,.new] ?_ ?_ (λi hi=>?_)
 ·simp
 ·repeat' first|exact trivial|exact rfl|refine And.intro ?_ ?_
 refine dec (λm=>?_) (λm=>?_)
 ·have e:i<a.length:=by omega
  have j:=MD e;have E:=MB (vis:=a) (i:=i);repeat'((conv=>whnf);first|refine aS (λh=>?_) (λh=>?_)|refine⟨i64 (by omega) (by omega),?_⟩|refine⟨_,⟨rfl,by omega⟩,?_⟩|refine⟨_,M (by omega),?_⟩|fail)
  ·rw[if_pos h]at j;refine⟨[(i:Int)],rfl,?_⟩;refine⟨_,_,rfl,rfl,(by simp only[N,T,U];omega),?_⟩;repeat'(refine I6 ?_)
   refine ag (i+1) [] [.s 0,.s 3] ⟨e,trivial⟩ (by simp only[];omega) ?_;repeat' first|exact trivial|exact rfl|refine And.intro ?_ ?_
   rw[j];exact rfl
  ·rw[if_neg (by simp[h]),bb]at j;skip;refine ag (i+1) [] [.s 0,.s 1] ⟨e,trivial⟩ (by simp only[];omega) ?_;repeat' first|exact trivial|exact rfl|refine And.intro ?_ ?_
   rw[j];exact rfl
 ·obtain rfl:i=a.length:=by omega
  rw[<-f];refine XM.of ?_;exact rx [] [.s 1]
end Go.Nest
end
section
namespace Go.Nest
open Go Go.AM
def dv(l:List Int)(k:Int):Bool:=l.any λx=>decide (x=k)
theorem fR{l:List Int}{k:Int}:dv l k=true↔k∈l:=by
 unfold dv;rw[a6];constructor
 ·rintro⟨x,a,e⟩;have e:x=k:=by simpa using e
  rw[<-e];exact a
 ·intro h;exact⟨k,h,by simp⟩
inductive eb(L:List Ob):Int->Int->Prop
 |refl (id:Int):eb L id id
 |step {id j k:Int} (h:j∈(aj L id).parents) (h2:eb L j k):eb L id k
def tn:Nat->List Ob->Int->Int->Bool
 |0,_,_,_=>false
 |n+1,L,id,k=>decide (k=id)||(aj L id).parents.any λp=>tn n L p k
theorem eb.next{L:List Ob}{id j k:Int}(h:eb L id j)(hk:k∈(aj L j).parents):eb L id k:=by
 induction h with
 |refl id=>exact .step hk (.refl k)
 |step h _ ih=>exact .step h (ih hk)
theorem MI{L:List Ob}{j k:Int}(h:k∈(aj L j).parents):k∈dI L j:=by
 unfold dI;rw[Q,Q];exact .inr (.inr h)
theorem uc{L:List Ob}(d:ak L){j k:Int}(h:k∈(aj L j).parents):0<=k/\k<j/\k.toNat<L.length:=by
 obtain⟨a,b⟩:=xD d (MI h);obtain⟨e,c⟩:=dC a;exact⟨by omega,b,c⟩
theorem xO{L:List Ob}(c:ak L){j k:Int}(hj:kindOf L j=3)(h:k∈(aj L j).parents):kindOf L k=3:=by
 obtain⟨a,b⟩:=dC (l:=L) (id:=j) (by omega);have:=(c.obj (aj L j) (by rw[lZ a b];exact Z _)).2;unfold fg at this;rw[ad,ad,W,W]at this;simpa using this.2.1 k h
theorem eb.kind{L:List Ob}(a:ak L){id k:Int}(h:eb L id k)(hi:kindOf L id=3):kindOf L k=3:=by
 induction h with
 |refl=>exact hi
 |step h _ ih=>exact ih (xO a hi h)
theorem eb.le{L:List Ob}(a:ak L){id k:Int}(h:eb L id k):k<=id:=by
 induction h with
 |refl=>exact Int.le_refl _
 |step h _ ih=>have:=(uc a h).2.1;omega
theorem tu{L:List Ob}(b:ak L):∀(n:Nat) (id k:Int),id.toNat<n->(tn n L id k=true↔eb L id k)
 |0,_,_,h=>absurd h (by omega)
 |n+1,id,k,h=>by
  unfold tn;rw[Bool.or_eq_true,decide_eq_true_iff,a6];constructor
  ·rintro(rfl|⟨p,a,c⟩)
   ·exact .refl _
   ·obtain⟨d,e,_⟩:=uc b a;exact .step a ((tu b n p k (by omega)).1 c)
  ·intro f;cases f with
   |refl=>exact .inl rfl
   |step a c=>
    obtain⟨d,e,_⟩:=uc b a;exact .inr ⟨_,a,(tu b n _ k (by omega)).2 c⟩
def bf(L:List Ob)(id:Int):List Int:=((cf L.length).filter λk:Nat=>tn (id.toNat+1) L id (k:Int)).map λk:Nat=>(k:Int)
theorem mj{L:List Ob}(b:ak L){id k:Int}(hi:kindOf L id=3):k∈bf L id↔eb L id k:=by
 unfold bf;rw[b0];constructor
 ·rintro⟨n,a,rfl⟩;rw[ar]at a;exact(tu b _ id n (cd _)).1 a.2
 ·intro h;have d:=h.kind b hi;obtain⟨a,c⟩:=dC (l:=L) (id:=k) (by omega);refine⟨k.toNat,ar.2 ⟨by rw[bk];exact c,?_⟩,by omega⟩;rw[show((k.toNat:Nat):Int)=k by omega];exact(tu b _ id k (cd _)).2 h
theorem sf{L:List Ob}{id:Int}:(bf L id).Pairwise (· < ·):=by
 unfold bf;rw[b4];exact((bh (n:=L.length)).filter _).imp (λh=>by omega)
theorem se{L:List Ob}{id:Int}:(bf L id).length<=L.length:=by
 unfold bf;rw[ap];exact a9 (ac _ _) (by simp)
theorem On{L:List Ob}(h:ak L){id:Int}(hi:kindOf L id=3){out:List Int}(hn:out.Nodup)(hm:∀k,k∈out↔eb L id k):(out.mergeSort λx y=>decide (x<=y))=bf L id:=by
 have d:=List.mergeSort_perm out λx y=>decide (x<=y);have i:=List.pairwise_mergeSort (le:=λx y:Int=>decide (x<=y)) (λa b c f g=>by simp at*;omega) (λa b=>by simp;omega) out;refine oK ?_ sf λx=>by rw[d.mem_iff,hm,mj h hi]
 have e:(out.mergeSort λx y=>decide (x<=y)).Nodup:=d.nodup_iff.2 hn;refine(i.and e).imp λ{x y} ⟨f,g⟩=>?_;have:x<=y:=by simpa using f
 omega
def b7(L:List Ob)(id:Int):List Int×Int:=if kindOf L id=3 then(bf L id,0)else([],9)
def fu(L:List Ob)(a b:Int):Bool:=dv (b7 L b).1 a
def n3(L:List Ob)(a b:Int):List Int:=(bf L a).filter λk=>dv (bf L b) k
def E1(L:List Ob)(c:List Int):List Int:=c.filter λk=> !c.any λm=>decide (m≠k)&&fu L k m
def eL(L:List Ob)(a b:Int):List Int×Int:=if kindOf L a≠3 then([],9)else if kindOf L b≠3 then([],9)else(E1 L (n3 L a b),0)
theorem jh:∀(n:Nat) {l:List Int},l.Nodup->(∀k∈l,0<=k/\k<n)->l.length<=n
 |0,l,_,h=>by
  cases l with
  |nil=>simp
  |cons x r=>have:=h x (by simp);omega
 |n+1,l,b,h=>by
  by_cases c:(n:Int)∈l
  ·have := jh n (b.erase (n : Int)) (λk a=>by
    obtain⟨d,f⟩:=(b.mem_erase_iff).1 a;have:=h k f;omega)
   rw[List.length_erase_of_mem c]at this;omega
  ·have := jh n b (λk a=>by
    have d:=h k a;have:k≠n:=λe=>c (e▸a);omega)
   omega
structure ic(L:List Ob)(id:Int)(out:List Int)(i:Nat):Prop where
 le:i<=out.length
 nd:out.Nodup
 mem:id∈out
 anc:∀k∈out,eb L id k
 clos:∀x∈out.take i,∀k∈(aj L x).parents,k∈out
theorem ic.start{L:List Ob}{id:Int}:ic L id [id] 0:=⟨cq _,by simp,by simp,λk a=>by rw[R]at a;subst a;exact .refl _,λx b=>by cases b⟩
theorem ic.len{L:List Ob}(a:ak L){id:Int}(hi:kindOf L id=3){out:List Int}{i:Nat}(h:ic L id out i):out.length<=L.length:=
 jh _ h.nd λk b=>by
  have:=(h.anc k b).kind a hi;obtain⟨c,d⟩:=dC (l:=L) (id:=k) (by omega);omega
theorem ic.add{L:List Ob}{id:Int}{out:List Int}{i:Nat}(h:ic L id out i){k:Int}(hk:k∉out)(d:eb L id k):ic L id (out++[k]) i:=by
 refine⟨by rw[N];have:=h.le;omega,?_,am _ h.mem,λx hx=>?_,λx hx j f=>?_⟩
 ·rw[b3];exact⟨h.nd,by simp,λa c b hb=>by rw[R]at hb;intro e;exact hk (by rw[<-hb,<-e];exact c)⟩
 ·rcases Q.1 hx with hx|hx
  ·exact h.anc x hx
  ·rw[R]at hx;subst hx;exact d
 ·rw[List.take_append_of_le_length h.le]at hx;exact am _ (h.clos x hx j f)
theorem ic.next{L:List Ob}{id:Int}{out:List Int}{i:Nat}(h:ic L id out i){x:Int}(d:out[i]? =some x)(hc:∀k∈(aj L x).parents,k∈out):ic L id out (i+1):=by
 obtain⟨a,e⟩:=List.getElem?_eq_some_iff.1 d;refine⟨a,h.nd,h.mem,h.anc,λy b k c=>?_⟩;rw[P a,Q,R,e]at b;rcases b with b|rfl
 ·exact h.clos y b k c
 ·exact hc k c
theorem HC{L:List Ob}{out:List Int}(hc:∀x∈out,∀k∈(aj L x).parents,k∈out){id k:Int}(b:eb L id k):id∈out->k∈out:=by
 induction b with
 |refl=>exactλh=>h
 |step a _ ih=>exactλh=>ih (hc _ h _ a)
theorem ic.stop{L:List Ob}{id:Int}{out:List Int}{i:Nat}(h:ic L id out i)(hi:out.length<=i)(k:Int):k∈out↔eb L id k:=by
 have a:=h.clos;rw[S hi]at a;exact⟨h.anc k,λb=>HC a b h.mem⟩
end Go.Nest
end
section
namespace Go.Nest
open Go Go.AM Go.Proofs
open Go.Proofs.YtpechfcbnoggfaaGreatDoor (tab tabOk)
set_option maxRecDepth 4000
def d21:List B:=[.dead,.dead,.dead,.dead,.dead,.dead,.dead,.dead,.dead,.dead,.dead,.dead,.dead,.dead,.dead,.dead,.dead,.dead,.dead,.dead,.dead]
def lU(s:FS):List B:=[.row 6 Ob an s.L,.row 1 Bool ai (s.o 0),.row 1 Bool ai (s.o 1),.row 1 Bool ai (s.o 2),.row 1 Bool ai (s.o 3),.row 1 Int encI (s.b 0),.row 1 Int encI (s.b 1),.row 1 Int encI (s.b 2),.row 1 Int encI (s.b 3),.row 2 Rf bL (s.n 0),.row 2 Rf bL (s.n 1),.row 2 Rf bL (s.n 2),.row 2 Rf bL (s.n 3),.row 3 Mv cN (s.m 0),.row 3 Mv cN (s.m 1),.row 3 Mv cN (s.m 2),.row 3 Mv cN (s.m 3),.row 5 It aM (s.w 0),.row 5 It aM (s.w 1),.row 5 It aM (s.w 2),.row 5 It aM (s.w 3)]
def aQ(k:Nat)(mid:List B)(s:FS):List B:= .box [.ptr 1 0,.ptr 2 0,.ptr 3 0,.ptr 4 0,.ptr 5 0,.ptr 6 0,.ptr 7 0,.ptr 8 0,.ptr 9 0]:: .box [.ptr 10 0,.rw (k+12),.rw (k+13),.rw (k+14),.rw (k+15),.rw (k+16),.rw (k+17),.rw (k+18),.rw (k+19)]:: .box [.rw (k+20),.rw (k+24)]:: .box [.ptr 10 0,.rw (k+28),.int .i64 (s.h 0)]:: .box [.rw (k+21),.rw (k+25)]:: .box [.ptr 10 0,.rw (k+29),.int .i64 (s.h 1)]:: .box [.rw (k+22),.rw (k+26)]:: .box [.ptr 10 0,.rw (k+30),.int .i64 (s.h 2)]:: .box [.rw (k+23),.rw (k+27)]:: .box [.ptr 10 0,.rw (k+31),.int .i64 (s.h 3)]:: .box [.rw (k+11)]::(mid++lU s)
abbrev aO(s:FS):List B:=aQ 0 [] s
abbrev aX(s:FS):List B:=aQ 21 d21 s
def mF(k:Nat):List Nat:=[0,1,2,3,4,5,6,7,8,9,10,k+11,k+12,k+13,k+14,k+15,k+16,k+17,k+18,k+19,k+20,k+21,k+22,k+23,k+24,k+25,k+26,k+27,k+28,k+29,k+30,k+31]
def rF(k:Nat):List Rn:=[.s 0,.s 1,.s 2,.s 3,.s 4,.s 5,.s 6,.s 7,.s 8,.s 9,.s 10,.s 11,.s 12,.s 13,.s 14,.s 15,.s 16,.s 17,.s 18,.s 19,.s 20,.s 21,.s 22,.s 23,.s 24,.s 25,.s 26,.s 27,.s 28,.s 29,.s 30,.s 31,.s (k+11),.s (k+12),.s (k+13),.s (k+14),.s (k+15),.s (k+16),.s (k+17),.s (k+18),.s (k+19),.s (k+20),.s (k+21),.s (k+22),.s (k+23),.s (k+24),.s (k+25),.s (k+26),.s (k+27),.s (k+28),.s (k+29),.s (k+30),.s (k+31)]
def rP(f:Nat->Nat):List Rn:=[.s 0,.s 1,.s 2,.s 3,.s 4,.s 5,.s 6,.s 7,.s 8,.s 9,.s 10,.s 11,.s 12,.s 13,.s 14,.s 15,.s 16,.s 17,.s 18,.s 19,.s 20,.s 21,.s 22,.s 23,.s 24,.s 25,.s 26,.s 27,.s 28,.s 29,.s 30,.s 31,.s (f 11),.s (f 12),.s (f 13),.s (f 14),.s (f 15),.s (f 16),.s (f 17),.s (f 18),.s (f 19),.s (f 20),.s (f 21),.s (f 22),.s (f 23),.s (f 24),.s (f 25),.s (f 26),.s (f 27),.s (f 28),.s (f 29),.s (f 30),.s (f 31)]
structure lJ(l:List A):Prop where
 m:∀fr ah ρ,lq fr ah ρ l l
structure jZ(x:A):Prop where
 m:∀ah ρ,mA (λ_=>false) ah ρ x x
 r:∀σ,dX σ x=x
 c:fp x=true
theorem mn{f:FuncId}{rest:List A}{X:A}{s:FS}{r:Nat}(hr:r<4){L:List Ob}{l:List It}{h:Int}(b:aa Tryz.prog f (.c (.ptr 0 0)::rest) [.box [.ptr 1 0,.rw 3,.int .i64 (s.h r)],.box [.rw 2],.row 6 Ob an s.L,.row 5 It aM (s.w r)] (Rt X [.box [.ptr 1 0,.rw 5,.int .i64 h],.box [.rw 4],.dead,.dead,.row 6 Ob an L,.row 5 It aM l]))(a:jZ X)(hc:lJ rest:=by refine⟨λ_ _ _=>?_⟩;repeat' first|exact trivial|exact rfl|refine And.intro ?_ ?_):
  aa Tryz.prog f (.c (.ptr (3+2*r) 0)::rest) (aO s) (Rt X (aX (s.cC r L l h))):=by
 refine bB.frame [3+2*r,10,11,28+r] (rP λi=>bif a5 i 11 then 32 else bif a5 i (28+r)then 33 else i) b ?_ rfl (a.r _) ?_ ?_
 ·rcases four hr with rfl|rfl|rfl|rfl<;>exact iH (And.intro rfl (hc.m _ _ _))
 ·rcases four hr with rfl|rfl|rfl|rfl<;>exact jd (a.m _ _)
 ·rw[a.c];rfl
theorem xI{f:FuncId}{rest:List A}{X:A}{s:FS}{r:Nat}(hr:r<4){l:List Rf}{m:List Mv}(b:aa Tryz.prog f (.c (.ptr 0 0)::rest) [.box [.rw 1,.rw 2],.row 2 Rf bL (s.n r),.row 3 Mv cN (s.m r)] (Rt X [.box [.rw 3,.rw 4],.dead,.dead,.row 2 Rf bL l,.row 3 Mv cN m]))(a:jZ X)(hc:lJ rest:=by refine⟨λ_ _ _=>?_⟩;repeat' first|exact trivial|exact rfl|refine And.intro ?_ ?_):
  aa Tryz.prog f (.c (.ptr (2+2*r) 0)::rest) (aO s) (Rt X (aX (s.lD r l m))):=by
 refine bB.frame [2+2*r,20+r,24+r] (rP λi=>bif a5 i (20+r)then 32 else bif a5 i (24+r)then 33 else i) b ?_ rfl (a.r _) ?_ ?_
 ·rcases four hr with rfl|rfl|rfl|rfl<;>exact iH (And.intro rfl (hc.m _ _ _))
 ·rcases four hr with rfl|rfl|rfl|rfl<;>exact jd (a.m _ _)
 ·rw[a.c];rfl
theorem xH{f:FuncId}{rest:List A}{X:A}{s:FS}{o:Nat->List Bool}(b:aa Tryz.prog f (.c (.ptr 0 0)::rest) [.box [.ptr 1 0,.rw 3,.rw 4,.rw 5,.rw 6,.rw 7,.rw 8,.rw 9,.rw 10],.box [.rw 2],.row 6 Ob an s.L,.row 1 Bool ai (s.o 0),.row 1 Bool ai (s.o 1),.row 1 Bool ai (s.o 2),.row 1 Bool ai (s.o 3),.row 1 Int encI (s.b 0),.row 1 Int encI (s.b 1),.row 1 Int encI (s.b 2),.row 1 Int encI (s.b 3)] (Rt X [.box [.ptr 1 0,.rw 11,.rw 12,.rw 13,.rw 14,.rw 7,.rw 8,.rw 9,.rw 10],.box [.rw 2],.row 6 Ob an s.L,.dead,.dead,.dead,.dead,.row 1 Int encI (s.b 0),.row 1 Int encI (s.b 1),.row 1 Int encI (s.b 2),.row 1 Int encI (s.b 3),.row 1 Bool ai (o 0),.row 1 Bool ai (o 1),.row 1 Bool ai (o 2),.row 1 Bool ai (o 3)]))(a:jZ X)(hc:lJ rest:=by refine⟨λ_ _ _=>?_⟩;repeat' first|exact trivial|exact rfl|refine And.intro ?_ ?_):
  aa Tryz.prog f (.c (.ptr 1 0)::rest) (aO s) (Rt X (aX (s.dm o))):=by
 refine bB.frame [1,10,11,12,13,14,15,16,17,18,19] (rP λi=>bif cp 11 i&&cp i 16 then 20+i else i) b (iH (And.intro rfl (hc.m _ _ _))) rfl (a.r _) (jd (a.m _ _)) ?_;rw[a.c];rfl
theorem Mp{f:FuncId}{rest:List A}{X:A}{s:FS}{b:Nat->List Int}(d:aa Tryz.prog f (.c (.ptr 0 0)::rest) [.box [.ptr 1 0,.rw 3,.rw 4,.rw 5,.rw 6,.rw 7,.rw 8,.rw 9,.rw 10],.box [.rw 2],.row 6 Ob an s.L,.row 1 Bool ai (s.o 0),.row 1 Bool ai (s.o 1),.row 1 Bool ai (s.o 2),.row 1 Bool ai (s.o 3),.row 1 Int encI (s.b 0),.row 1 Int encI (s.b 1),.row 1 Int encI (s.b 2),.row 1 Int encI (s.b 3)] (Rt X [.box [.ptr 1 0,.rw 3,.rw 4,.rw 5,.rw 6,.rw 11,.rw 12,.rw 13,.rw 14],.box [.rw 2],.row 6 Ob an s.L,.row 1 Bool ai (s.o 0),.row 1 Bool ai (s.o 1),.row 1 Bool ai (s.o 2),.row 1 Bool ai (s.o 3),.dead,.dead,.dead,.dead,.row 1 Int encI (b 0),.row 1 Int encI (b 1),.row 1 Int encI (b 2),.row 1 Int encI (b 3)]))(a:jZ X)(hc:lJ rest:=by refine⟨λ_ _ _=>?_⟩;repeat' first|exact trivial|exact rfl|refine And.intro ?_ ?_):
  aa Tryz.prog f (.c (.ptr 1 0)::rest) (aO s) (Rt X (aX (s.Ez b))):=by
 refine bB.frame [1,10,11,12,13,14,15,16,17,18,19] (rP λi=>bif cp 15 i&&cp i 20 then 16+i else i) d (iH (And.intro rfl (hc.m _ _ _))) rfl (a.r _) (jd (a.m _ _)) ?_;rw[a.c];rfl
theorem Mw{f:FuncId}{rest:List A}{X:A}{s:FS}{o:Nat->List Bool}(b:aa Tryz.prog f (.c (.ptr 0 0)::rest) [.box [.ptr 1 0,.rw 3,.rw 4,.rw 5,.rw 6,.rw 7,.rw 8,.rw 9,.rw 10],.box [.rw 2],.row 6 Ob an s.L,.row 1 Bool ai (s.o 0),.row 1 Bool ai (s.o 1),.row 1 Bool ai (s.o 2),.row 1 Bool ai (s.o 3),.row 1 Int encI (s.b 0),.row 1 Int encI (s.b 1),.row 1 Int encI (s.b 2),.row 1 Int encI (s.b 3)] (Rt X [.box [.ptr 1 0,.rw 3,.rw 4,.rw 5,.rw 6,.rw 7,.rw 8,.rw 9,.rw 10],.box [.rw 2],.row 6 Ob an s.L,.row 1 Bool ai (o 0),.row 1 Bool ai (o 1),.row 1 Bool ai (o 2),.row 1 Bool ai (o 3),.row 1 Int encI (s.b 0),.row 1 Int encI (s.b 1),.row 1 Int encI (s.b 2),.row 1 Int encI (s.b 3)]))(a:jZ X)(hc:lJ rest:=by refine⟨λ_ _ _=>?_⟩;repeat' first|exact trivial|exact rfl|refine And.intro ?_ ?_):
  aa Tryz.prog f (.c (.ptr 1 0)::rest) (aO s) (Rt X (aX (s.dm o))):=by
 refine bB.frame [1,10,11,12,13,14,15,16,17,18,19] (rP id) b (iH (And.intro rfl (hc.m _ _ _))) rfl (a.r _) (jd (a.m _ _)) ?_;rw[a.c];rfl
theorem Ms{f:FuncId}{rest:List A}{X:A}{s:FS}{L:List Ob}(b:aa Tryz.prog f (.c (.ptr 0 0)::rest) [.box [.rw 1],.row 6 Ob an s.L] (Rt X [.box [.rw 2],.dead,.row 6 Ob an L]))(a:jZ X)(hc:lJ rest:=by refine⟨λ_ _ _=>?_⟩;repeat' first|exact trivial|exact rfl|refine And.intro ?_ ?_):
  aa Tryz.prog f (.c (.ptr 10 0)::rest) (aO s) (Rt X (aX (s.aY L))):=by
 refine bB.frame [10,11] (rP λi=>bif a5 i 11 then 32 else i) b (iH (And.intro rfl (hc.m _ _ _))) rfl (a.r _) (jd (a.m _ _)) ?_;rw[a.c];rfl
def ku (s : FS) : List C := [.bp [.bp [.bs 6 Ob an s.L],.bs 1 Bool ai (s.o 0),.bs 1 Bool ai (s.o 1),.bs 1 Bool ai (s.o 2),.bs 1 Bool ai (s.o 3),.bs 1 Int encI (s.b 0),.bs 1 Int encI (s.b 1),.bs 1 Int encI (s.b 2),.bs 1 Int encI (s.b 3)],
 .bp [.bs 2 Rf bL (s.n 0),.bs 3 Mv cN (s.m 0)],.bp [.bp [.bs 6 Ob an s.L],.bs 5 It aM (s.w 0),.int .i64 (s.h 0)],
 .bp [.bs 2 Rf bL (s.n 1),.bs 3 Mv cN (s.m 1)],.bp [.bp [.bs 6 Ob an s.L],.bs 5 It aM (s.w 1),.int .i64 (s.h 1)],
 .bp [.bs 2 Rf bL (s.n 2),.bs 3 Mv cN (s.m 2)],.bp [.bp [.bs 6 Ob an s.L],.bs 5 It aM (s.w 2),.int .i64 (s.h 2)],
 .bp [.bs 2 Rf bL (s.n 3),.bs 3 Mv cN (s.m 3)],.bp [.bp [.bs 6 Ob an s.L],.bs 5 It aM (s.w 3),.int .i64 (s.h 3)]]
set_option maxRecDepth 100000
theorem OR(r:Int)(a:List UInt8):aa Tryz.prog 197 [.c (.str [114,101,109,111,118,101]),.c (.bs 1 Int encI [r]),.c (.bs 1 (List UInt8) encS [a])] [] (Rt (.st (az ⟨2,r,0,a,[],[],[]⟩)) []):=by
 refine af (n:=105) (n0:=0) tabOk Tryz.call197 Tryz.func197 ?_;intro hb;refine⟨0,r,rfl,rfl,?_⟩;refine⟨false,.dj [],(.l [0,1,2,3,4,5,6]),by kernel_rfl,.inl ?_⟩;refine⟨0,a,rfl,rfl,?_⟩;exact rx [] []
theorem OL(r:Int)(a:List UInt8):aa Tryz.prog 197 [.c (.str [99,104,101,99,107,111,117,116]),.c (.bs 1 Int encI [r]),.c (.bs 1 (List UInt8) encS [a])] [] (Rt (.st (az ⟨5,r,0,[],a,[],[]⟩)) []):=by
 refine af (n:=105) (n0:=0) tabOk Tryz.call197 Tryz.func197 ?_;intro hb;refine⟨0,r,rfl,rfl,?_⟩;refine⟨false,.dj [],(.l [0,1,2,3,4,5,6]),by kernel_rfl,.inl ?_⟩;refine⟨0,a,rfl,rfl,?_⟩;exact rx [] []
theorem OQ(r:Int)(a:List UInt8):aa Tryz.prog 197 [.c (.str [109,101,114,103,101]),.c (.bs 1 Int encI [r]),.c (.bs 1 (List UInt8) encS [a])] [] (Rt (.st (az ⟨6,r,0,[],a,[],[]⟩)) []):=by
 refine af (n:=105) (n0:=0) tabOk Tryz.call197 Tryz.func197 ?_;intro hb;refine⟨0,r,rfl,rfl,?_⟩;refine⟨false,.dj [],(.l [0,1,2,3,4,5,6]),by kernel_rfl,.inl ?_⟩;refine⟨0,a,rfl,rfl,?_⟩;exact rx [] []
theorem OK(r:Int)(a:List UInt8):aa Tryz.prog 197 [.c (.str [98,114,97,110,99,104]),.c (.bs 1 Int encI [r]),.c (.bs 1 (List UInt8) encS [a])] [] (Rt (.st (az ⟨7,r,0,[],a,[],[]⟩)) []):=by
 refine af (n:=105) (n0:=0) tabOk Tryz.call197 Tryz.func197 ?_;intro hb;refine⟨0,r,rfl,rfl,?_⟩;refine⟨false,.dj [],(.l [0,1,2,3,4,5,6]),by kernel_rfl,.inl ?_⟩;refine⟨0,a,rfl,rfl,?_⟩;exact rx [] []
theorem OM(r:Int)(a:List UInt8):aa Tryz.prog 197 [.c (.str [100,101,108,101,116,101]),.c (.bs 1 Int encI [r]),.c (.bs 1 (List UInt8) encS [a])] [] (Rt (.st (az ⟨8,r,0,[],a,[],[]⟩)) []):=by
 refine af (n:=105) (n0:=0) tabOk Tryz.call197 Tryz.func197 ?_;intro hb;refine⟨0,r,rfl,rfl,?_⟩;refine⟨false,.dj [],(.l [0,1,2,3,4,5,6]),by kernel_rfl,.inl ?_⟩;refine⟨0,a,rfl,rfl,?_⟩;exact rx [] []
theorem EU(r:Int)(a x:List UInt8):aa Tryz.prog 197 [.c (.str [99,111,109,109,105,116]),.c (.bs 1 Int encI [r]),.c (.bs 1 (List UInt8) encS [a,x])] [] (Rt (.st (az ⟨4,r,0,[],a,x,[]⟩)) []):=by
 refine af (n:=105) (n0:=0) tabOk Tryz.call197 Tryz.func197 ?_;intro hb;refine⟨0,r,rfl,rfl,?_⟩;refine⟨false,.dj [],(.l [0,1,2,3,4,5,6,7,8,9,10,11]),by kernel_rfl,.inl ?_⟩;refine⟨0,a,rfl,rfl,?_⟩;refine⟨1,x,rfl,rfl,?_⟩;exact rx [] []
theorem OS(r:Int)(a x:List UInt8):aa Tryz.prog 197 [.c (.str [115,112,108,105,116]),.c (.bs 1 Int encI [r]),.c (.bs 1 (List UInt8) encS [a,x])] [] (Rt (.st (az ⟨12,r,0,a,x,[],[]⟩)) []):=by
 refine af (n:=105) (n0:=0) tabOk Tryz.call197 Tryz.func197 ?_;intro hb;refine⟨0,r,rfl,rfl,?_⟩;refine⟨false,.dj [],(.l [0,1,2,3,4,5,6,7,8,9,10,11]),by kernel_rfl,.inl ?_⟩;refine⟨0,a,rfl,rfl,?_⟩;refine⟨1,x,rfl,rfl,?_⟩;exact rx [] []
theorem OP(r q:Int)(a x:List UInt8):aa Tryz.prog 197 [.c (.str [108,105,110,107]),.c (.bs 1 Int encI [r,q]),.c (.bs 1 (List UInt8) encS [a,x])] [] (Rt (.st (az ⟨3,r,q,a,x,[],[]⟩)) []):=by
 refine af (n:=105) (n0:=0) tabOk Tryz.call197 Tryz.func197 ?_;intro hb;refine⟨0,r,rfl,rfl,?_⟩;refine⟨1,q,rfl,rfl,?_⟩;refine⟨false,.dj [],(.l [0,1,2,3,4,5,6,7,8,9,10,11]),by kernel_rfl,.inl ?_⟩;refine⟨0,a,rfl,rfl,?_⟩;refine⟨1,x,rfl,rfl,?_⟩;exact rx [] []
theorem ON(r q:Int)(a:List UInt8):aa Tryz.prog 197 [.c (.str [102,101,116,99,104]),.c (.bs 1 Int encI [r,q]),.c (.bs 1 (List UInt8) encS [a])] [] (Rt (.st (az ⟨9,r,q,[],a,[],[]⟩)) []):=by
 refine af (n:=105) (n0:=0) tabOk Tryz.call197 Tryz.func197 ?_;intro hb;refine⟨0,r,rfl,rfl,?_⟩;refine⟨1,q,rfl,rfl,?_⟩;refine⟨false,.dj [],(.l [0,1,2,3,4,5,6]),by kernel_rfl,.inl ?_⟩;refine⟨0,a,rfl,rfl,?_⟩;exact rx [] []
theorem OJ(r q:Int):aa Tryz.prog 197 [.c (.str [98,111,114,114,111,119]),.c (.bs 1 Int encI [r,q]),.c (.bs 1 (List UInt8) encS [])] [] (Rt (.st (az ⟨10,r,q,[],[],[],[]⟩)) []):=by
 refine af (n:=105) (n0:=0) tabOk Tryz.call197 Tryz.func197 ?_;intro hb;refine⟨0,r,rfl,rfl,?_⟩;refine⟨1,q,rfl,rfl,?_⟩;exact rx [] []
theorem OT:aa Tryz.prog 197 [.c (.str [115,119,101,101,112]),.c (.bs 1 Int encI []),.c (.bs 1 (List UInt8) encS [])] [] (Rt (.st (az ⟨11,0,0,[],[],[],[]⟩)) []):=by
 refine af (n:=105) (n0:=0) tabOk Tryz.call197 Tryz.func197 ?_;intro hb;exact rx [] []
end Go.Nest
end
