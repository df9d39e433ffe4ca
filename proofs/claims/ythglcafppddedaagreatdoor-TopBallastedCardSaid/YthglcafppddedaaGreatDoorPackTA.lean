/- What ballasted_holds leans on, part TA. No condition. -/
import Derived.Test.YthglcafppddedaaGreatDoorChecked
import Derived.Test.YthglcafppddedaaGreatDoorPackVB
import Derived.Test.YthglcafppddedaaGreatDoorPackUI
import Derived.Test.YthglcafppddedaaGreatDoorPackUJ

set_option linter.all false
set_option maxRecDepth 100000
namespace Go.Proofs
open Go.V
def Tryz.tl:List (Nat×TI):=[
 (1,⟨Go.TypeDesc.func #[] #[] false,false,1,8,[.a7],false⟩),
 (2,⟨Go.TypeDesc.int (Go.IntKind.i64),false,1,8,[.int .i64 0],false⟩),
 (3,⟨Go.TypeDesc.int (Go.IntKind.i64),false,1,8,[.int .i64 0],false⟩),
 (4,⟨Go.TypeDesc.bool,false,1,1,[.ff],false⟩),
 (5,⟨Go.TypeDesc.int (Go.IntKind.u8),false,1,1,[.int .u8 0],false⟩),
 (9,⟨Go.TypeDesc.string,false,1,16,[.str ⟨#[]⟩],false⟩),
 (21,⟨Go.TypeDesc.int (Go.IntKind.i32),false,1,4,[.int .i32 0],false⟩),
 (22,⟨Go.TypeDesc.slice 84,false,1,24,[.ao],false⟩),
 (24,⟨TypeDesc.struct #[⟨ "Parts",22,0,false,"","",0⟩],true,1,24,[.ao],false⟩),
 (25,⟨Go.TypeDesc.slice 54,false,1,24,[.ao],false⟩),
 (27,⟨TypeDesc.struct #[⟨ "Parts",25,0,false,"","",0⟩,⟨ "Aft",3,1,false,"","",24⟩,⟨ "Fore",3,2,false,"","",32⟩],true,3,40,[.ao,.int .i64 0,.int .i64 0],false⟩),
 (29,⟨TypeDesc.struct #[⟨ "Lo",3,0,false,"","",0⟩,⟨ "Hi",3,1,false,"","",8⟩],true,2,16,[.int .i64 0,.int .i64 0],true⟩),
 (30,⟨Go.TypeDesc.slice 252,false,1,24,[.ao],false⟩),
 (31,⟨Go.TypeDesc.slice 254,false,1,24,[.ao],false⟩),
 (33,⟨TypeDesc.struct #[⟨ "Tanks",30,0,false,"","",0⟩,⟨ "Pipes",31,1,false,"","",24⟩],true,2,48,[.ao,.ao],false⟩),
 (34,⟨Go.TypeDesc.slice 3,false,1,24,[.ao],false⟩),
 (35,⟨Go.TypeDesc.slice 124,false,1,24,[.ao],false⟩),
 (36,⟨Go.TypeDesc.slice 34,false,1,24,[.ao],false⟩),
 (38,⟨TypeDesc.struct #[⟨ "Ship",24,0,false,"","",0⟩,⟨ "Hull",27,1,false,"","",24⟩,⟨ "Tide",29,4,false,"","",64⟩,⟨ "Net",33,6,false,"","",80⟩,⟨ "Blanks",34,8,false,"","",128⟩,⟨ "Steps",35,9,false,"","",152⟩,⟨ "Tanks",36,10,false,"","",176⟩],true,11,200,[.ao,.ao,.int .i64 0,.int .i64 0,.int .i64 0,.int .i64 0,.ao,.ao,.ao,.ao,.ao],false⟩),
 (39,⟨Go.TypeDesc.array 2 5,true,2,2,[.int .u8 0,.int .u8 0],false⟩),
 (44,⟨Go.TypeDesc.int (Go.IntKind.i64),false,1,8,[.int .i64 0],false⟩),
 (54,⟨TypeDesc.struct #[⟨ "Name",9,0,false,"","",0⟩,⟨ "At",3,1,false,"","",16⟩,⟨ "Weight",29,2,false,"","",24⟩,⟨ "Keel",3,4,false,"","",40⟩,⟨ "Lift",29,5,false,"","",48⟩],true,7,64,[.str ⟨#[]⟩,.int .i64 0,.int .i64 0,.int .i64 0,.int .i64 0,.int .i64 0,.int .i64 0],false⟩),
 (59,⟨TypeDesc.struct #[⟨ "StHull",27,0,true,"","",0⟩],true,3,40,[.ao,.int .i64 0,.int .i64 0],false⟩),
 (60,⟨Go.TypeDesc.func #[168] #[] false,false,1,8,[.a7],false⟩),
 (61,⟨Go.TypeDesc.func #[168] #[] false,false,1,8,[.a7],false⟩),
 (64,⟨Go.TypeDesc.array 3 3,true,3,24,[.int .i64 0,.int .i64 0,.int .i64 0],false⟩),
 (66,⟨Go.TypeDesc.func #[54] #[3] false,false,1,8,[.a7],false⟩),
 (67,⟨Go.TypeDesc.func #[172] #[3] false,false,1,8,[.a7],false⟩),
 (69,⟨TypeDesc.struct #[⟨ "arm",66,0,false,"","orlop/stand",0⟩,⟨ "far",67,1,false,"","orlop/stand",8⟩,⟨ "against",67,2,false,"","orlop/stand",16⟩],true,3,24,[.a7,.a7,.a7],false⟩),
 (70,⟨Go.TypeDesc.array 3 69,true,9,72,[.a7,.a7,.a7,.a7,.a7,.a7,.a7,.a7,.a7],false⟩),
 (72,⟨Go.TypeDesc.pointer 180,false,1,8,[.cO],false⟩),
 (75,⟨Go.TypeDesc.int (Go.IntKind.i64),false,1,8,[.int .i64 0],false⟩),
 (79,⟨Go.TypeDesc.slice 185,false,1,24,[.ao],false⟩),
 (81,⟨TypeDesc.struct #[⟨ "Ship",24,0,false,"","",0⟩,⟨ "Changes",79,1,false,"","",24⟩],true,2,48,[.ao,.ao],false⟩),
 (82,⟨Go.TypeDesc.slice 9,false,1,24,[.ao],false⟩),
 (84,⟨TypeDesc.struct #[⟨ "Name",9,0,false,"","",0⟩,⟨ "Kind",3,1,false,"","",16⟩,⟨ "First",3,2,false,"","",24⟩,⟨ "Last",3,3,false,"","",32⟩,⟨ "On",82,4,false,"","",40⟩,⟨ "Weight",29,5,false,"","",64⟩],true,7,80,[.str ⟨#[]⟩,.int .i64 0,.int .i64 0,.int .i64 0,.ao,.int .i64 0,.int .i64 0],false⟩),
 (87,⟨TypeDesc.struct #[⟨ "Free",34,0,false,"","",0⟩,⟨ "Blowers",34,1,false,"","",24⟩],true,2,48,[.ao,.ao],false⟩),
 (100,⟨Go.TypeDesc.slice 81,false,1,24,[.ao],false⟩),
 (103,⟨TypeDesc.struct #[⟨ "Name",9,0,false,"","",0⟩,⟨ "Frame",3,1,false,"","",16⟩,⟨ "Kind",3,2,false,"","",24⟩],true,3,32,[.str ⟨#[]⟩,.int .i64 0,.int .i64 0],false⟩),
 (104,⟨Go.TypeDesc.slice 103,false,1,24,[.ao],false⟩),
 (116,⟨Go.TypeDesc.func #[9] #[4] false,false,1,8,[.a7],false⟩),
 (124,⟨TypeDesc.struct #[⟨ "Tank",3,0,false,"","",0⟩,⟨ "Off",4,1,false,"","",8⟩],true,2,16,[.int .i64 0,.ff],true⟩),
 (138,⟨TypeDesc.struct #[⟨ "Down",3,0,false,"","",0⟩,⟨ "Aft",3,1,false,"","",8⟩,⟨ "Fore",3,2,false,"","",16⟩],true,3,24,[.int .i64 0,.int .i64 0,.int .i64 0],true⟩),
 (143,⟨TypeDesc.struct #[⟨ "Weights",34,0,false,"","",0⟩,⟨ "Lifts",34,1,false,"","",24⟩],true,2,48,[.ao,.ao],false⟩),
 (148,⟨Go.TypeDesc.slice 157,false,1,24,[.ao],false⟩),
 (157,⟨TypeDesc.struct #[⟨ "At",3,0,false,"","",0⟩,⟨ "Force",3,1,false,"","",8⟩],true,2,16,[.int .i64 0,.int .i64 0],true⟩),
 (164,⟨Go.TypeDesc.func #[54] #[4] false,false,1,8,[.a7],false⟩),
 (167,⟨Go.TypeDesc.func #[3] #[4] false,false,1,8,[.a7],false⟩),
 (168,⟨Go.TypeDesc.func #[29] #[4] false,false,1,8,[.a7],false⟩),
 (172,⟨TypeDesc.struct #[⟨ "StPart",54,0,true,"","",0⟩,⟨ "over",3,7,false,"","orlop/stand",64⟩],true,8,72,[.str ⟨#[]⟩,.int .i64 0,.int .i64 0,.int .i64 0,.int .i64 0,.int .i64 0,.int .i64 0,.int .i64 0],false⟩),
 (173,⟨Go.TypeDesc.array 3 66,true,3,24,[.a7,.a7,.a7],false⟩),
 (174,⟨Go.TypeDesc.func #[] #[3] false,false,1,8,[.a7],false⟩),
 (177,⟨Go.TypeDesc.slice 75,false,1,24,[.ao],false⟩),
 (178,⟨Go.TypeDesc.map 75 3,false,1,8,[.fh],false⟩),
 (180,⟨TypeDesc.struct #[⟨ "CtTask",38,0,true,"","",0⟩,⟨ "above",177,11,false,"","orlop/cut",200⟩,⟨ "gas",75,12,false,"","orlop/cut",224⟩,⟨ "known",178,13,false,"","orlop/cut",232⟩],true,14,240,[.ao,.ao,.int .i64 0,.int .i64 0,.int .i64 0,.int .i64 0,.ao,.ao,.ao,.ao,.ao,.ao,.int .i64 0,.fh],false⟩),
 (185,⟨TypeDesc.struct #[⟨ "What",3,0,false,"","",0⟩,⟨ "Day",3,1,false,"","",8⟩,⟨ "Name",9,2,false,"","",16⟩,⟨ "Part",84,3,false,"","",32⟩],true,10,112,[.int .i64 0,.int .i64 0,.str ⟨#[]⟩,.str ⟨#[]⟩,.int .i64 0,.int .i64 0,.int .i64 0,.ao,.int .i64 0,.int .i64 0],false⟩),
 (187,⟨Go.TypeDesc.func #[185] #[4] false,false,1,8,[.a7],false⟩),
 (195,⟨Go.TypeDesc.array 7 4,true,7,7,[.ff,.ff,.ff,.ff,.ff,.ff,.ff],false⟩),
 (197,⟨TypeDesc.struct #[⟨ "Free",195,0,false,"","",0⟩,⟨ "Blowers",195,7,false,"","",7⟩],true,14,14,[.ff,.ff,.ff,.ff,.ff,.ff,.ff,.ff,.ff,.ff,.ff,.ff,.ff,.ff],false⟩),
 (202,⟨TypeDesc.struct #[⟨ "HuShip",24,0,true,"","",0⟩],true,1,24,[.ao],false⟩),
 (207,⟨Go.TypeDesc.func #[84] #[4] false,false,1,8,[.a7],false⟩),
 (212,⟨TypeDesc.struct #[⟨ "name",9,0,false,"","orlop/hull",0⟩,⟨ "kind",3,1,false,"","orlop/hull",16⟩,⟨ "first",3,2,false,"","orlop/hull",24⟩,⟨ "last",3,3,false,"","orlop/hull",32⟩,⟨ "weight",29,4,false,"","orlop/hull",40⟩],true,6,56,[.str ⟨#[]⟩,.int .i64 0,.int .i64 0,.int .i64 0,.int .i64 0,.int .i64 0],true⟩),
 (214,⟨Go.TypeDesc.slice 202,false,1,24,[.ao],false⟩),
 (216,⟨TypeDesc.struct #[⟨ "ships",214,0,false,"","orlop/hull",0⟩,⟨ "agree",34,1,false,"","orlop/hull",24⟩],true,2,48,[.ao,.ao],false⟩),
 (221,⟨Go.TypeDesc.func #[202] #[4] false,false,1,8,[.a7],false⟩),
 (222,⟨Go.TypeDesc.func #[325] #[] false,false,1,8,[.a7],false⟩),
 (223,⟨Go.TypeDesc.func #[325] #[] false,false,1,8,[.a7],false⟩),
 (226,⟨TypeDesc.struct #[⟨ "name",9,0,false,"","orlop/hull",0⟩,⟨ "frame",3,1,false,"","orlop/hull",16⟩],true,2,24,[.str ⟨#[]⟩,.int .i64 0],false⟩),
 (227,⟨Go.TypeDesc.array 6 3,true,6,48,[.int .i64 0,.int .i64 0,.int .i64 0,.int .i64 0,.int .i64 0,.int .i64 0],false⟩),
 (236,⟨TypeDesc.struct #[⟨ "l",82,0,false,"","orlop/hull",0⟩],true,1,24,[.ao],false⟩),
 (240,⟨Go.TypeDesc.pointer 247,false,1,8,[.cO],false⟩),
 (243,⟨Go.TypeDesc.int (Go.IntKind.u64),false,1,8,[.int .u64 0],false⟩),
 (244,⟨Go.TypeDesc.int (Go.IntKind.u64),false,1,8,[.int .u64 0],false⟩),
 (245,⟨Go.TypeDesc.array 12 4,true,12,12,[.ff,.ff,.ff,.ff,.ff,.ff,.ff,.ff,.ff,.ff,.ff,.ff],false⟩),
 (247,⟨TypeDesc.struct #[⟨ "VnNet",33,0,true,"","",0⟩,⟨ "kept",244,2,false,"","orlop/vent",48⟩,⟨ "wanted",244,3,false,"","orlop/vent",56⟩,⟨ "open",245,4,false,"","orlop/vent",64⟩],true,16,80,[.ao,.ao,.int .u64 0,.int .u64 0,.ff,.ff,.ff,.ff,.ff,.ff,.ff,.ff,.ff,.ff,.ff,.ff],false⟩),
 (252,⟨TypeDesc.struct #[⟨ "Name",9,0,false,"","",0⟩,⟨ "Kept",4,1,false,"","",16⟩],true,2,24,[.str ⟨#[]⟩,.ff],false⟩),
 (254,⟨TypeDesc.struct #[⟨ "From",3,0,false,"","",0⟩,⟨ "To",3,1,false,"","",8⟩,⟨ "Welded",4,2,false,"","",16⟩],true,3,24,[.int .i64 0,.int .i64 0,.ff],false⟩),
 (256,⟨TypeDesc.struct #[⟨ "free",244,0,false,"","orlop/vent",0⟩,⟨ "blowers",244,1,false,"","orlop/vent",8⟩],true,2,16,[.int .u64 0,.int .u64 0],true⟩),
 (259,⟨Go.TypeDesc.array 7 3,true,7,56,[.int .i64 0,.int .i64 0,.int .i64 0,.int .i64 0,.int .i64 0,.int .i64 0,.int .i64 0],false⟩),
 (260,⟨Go.TypeDesc.array 2 3,true,2,16,[.int .i64 0,.int .i64 0],false⟩),
 (261,⟨Go.TypeDesc.slice 260,false,1,24,[.ao],false⟩),
 (264,⟨Go.TypeDesc.pointer 269,false,1,8,[.cO],false⟩),
 (267,⟨Go.TypeDesc.array 12 3,true,12,96,[.int .i64 0,.int .i64 0,.int .i64 0,.int .i64 0,.int .i64 0,.int .i64 0,.int .i64 0,.int .i64 0,.int .i64 0,.int .i64 0,.int .i64 0,.int .i64 0],false⟩),
 (269,⟨TypeDesc.struct #[⟨ "net",240,0,true,"","orlop/vent",0⟩,⟨ "now",267,1,false,"","orlop/vent",8⟩],true,13,104,[.cO,.int .i64 0,.int .i64 0,.int .i64 0,.int .i64 0,.int .i64 0,.int .i64 0,.int .i64 0,.int .i64 0,.int .i64 0,.int .i64 0,.int .i64 0,.int .i64 0],false⟩),
 (271,⟨Go.TypeDesc.map 3 3,false,1,8,[.fh],false⟩),
 (281,⟨Go.TypeDesc.func #[9,3,3,3] #[84] false,false,1,8,[.a7],false⟩),
 (285,⟨Go.TypeDesc.func #[355] #[] false,false,1,8,[.a7],false⟩),
 (286,⟨Go.TypeDesc.func #[355] #[] false,false,1,8,[.a7],false⟩),
 (288,⟨Go.TypeDesc.func #[75] #[4] false,false,1,8,[.a7],false⟩),
 (289,⟨Go.TypeDesc.func #[75] #[3] false,false,1,8,[.a7],false⟩),
 (292,⟨Go.TypeDesc.func #[360] #[] false,false,1,8,[.a7],false⟩),
 (293,⟨Go.TypeDesc.func #[360] #[] false,false,1,8,[.a7],false⟩),
 (296,⟨TypeDesc.struct #[⟨ "left",75,0,false,"","orlop/cut",0⟩,⟨ "order",34,1,false,"","orlop/cut",8⟩],true,2,32,[.int .i64 0,.ao],false⟩),
 (303,⟨Go.TypeDesc.func #[75,3] #[4] false,false,1,8,[.a7],false⟩),
 (304,⟨Go.TypeDesc.array 4 303,true,4,32,[.a7,.a7,.a7,.a7],false⟩),
 (318,⟨Go.TypeDesc.pointer 202,false,1,8,[.cO],false⟩),
 (322,⟨Go.TypeDesc.func #[103] #[4] false,false,1,8,[.a7],false⟩),
 (325,⟨Go.TypeDesc.func #[226] #[4] false,false,1,8,[.a7],false⟩),
 (326,⟨Go.TypeDesc.pointer 329,false,1,8,[.cO],false⟩),
 (327,⟨Go.TypeDesc.slice 5,false,1,24,[.ao],false⟩),
 (329,⟨TypeDesc.struct #[⟨ "addr",326,0,false,"","strings",0⟩,⟨ "buf",327,1,false,"","strings",8⟩],true,2,32,[.cO,.ao],false⟩),
 (331,⟨Go.TypeDesc.interface #[("Error",113)],false,1,16,[.dI],false⟩),
 (335,⟨Go.TypeDesc.func #[82] #[] true,false,1,8,[.a7],false⟩),
 (339,⟨Go.TypeDesc.pointer 236,false,1,8,[.cO],false⟩),
 (345,⟨TypeDesc.struct #[⟨ "from",256,0,false,"","orlop/vent",0⟩,⟨ "step",124,2,false,"","orlop/vent",16⟩],true,4,32,[.int .u64 0,.int .u64 0,.int .i64 0,.ff],false⟩),
 (346,⟨Go.TypeDesc.map 256 345,false,1,8,[.fh],false⟩),
 (347,⟨Go.TypeDesc.slice 256,false,1,24,[.ao],false⟩),
 (349,⟨Go.TypeDesc.func #[395] #[] false,false,1,8,[.a7],false⟩),
 (350,⟨Go.TypeDesc.func #[395] #[] false,false,1,8,[.a7],false⟩),
 (354,⟨Go.TypeDesc.func #[54] #[29] false,false,1,8,[.a7],false⟩),
 (355,⟨Go.TypeDesc.func #[3,75] #[4] false,false,1,8,[.a7],false⟩),
 (356,⟨Go.TypeDesc.func #[167] #[] false,false,1,8,[.a7],false⟩),
 (357,⟨Go.TypeDesc.func #[167] #[] false,false,1,8,[.a7],false⟩),
 (360,⟨Go.TypeDesc.func #[296] #[4] false,false,1,8,[.a7],false⟩),
 (361,⟨Go.TypeDesc.slice 296,false,1,24,[.ao],false⟩),
 (363,⟨Go.TypeDesc.int (Go.IntKind.i64),false,1,8,[.int .i64 0],false⟩),
 (370,⟨Go.TypeDesc.int (Go.IntKind.u32),false,1,4,[.int .u32 0],false⟩),
 (372,⟨Go.TypeDesc.int (Go.IntKind.u64),false,1,8,[.int .u64 0],false⟩),
 (374,⟨TypeDesc.struct #[⟨ "part",3,0,false,"","orlop/cut",0⟩,⟨ "at",3,1,false,"","orlop/cut",8⟩,⟨ "e",44,2,false,"","orlop/cut",16⟩],true,3,24,[.int .i64 0,.int .i64 0,.int .i64 0],true⟩),
 (377,⟨Go.TypeDesc.slice 29,false,1,24,[.ao],false⟩),
 (381,⟨Go.TypeDesc.map 3 385,false,1,8,[.fh],false⟩),
 (383,⟨Go.TypeDesc.func #[318,185] #[44] false,false,1,8,[.a7],false⟩),
 (385,⟨TypeDesc.struct #[⟨ "bare",187,0,false,"","orlop/hull",0⟩,⟨ "do",383,1,false,"","orlop/hull",8⟩],true,2,16,[.a7,.a7],false⟩),
 (390,⟨Go.TypeDesc.pointer 5,false,1,8,[.cO],false⟩),
 (394,⟨Go.TypeDesc.func #[252] #[4] false,false,1,8,[.a7],false⟩),
 (395,⟨Go.TypeDesc.func #[124,256] #[4] false,false,1,8,[.a7],false⟩),
 (396,⟨Go.TypeDesc.int (Go.IntKind.u64),false,1,8,[.int .u64 0],false⟩),
 (400,⟨Go.TypeDesc.pointer 3,false,1,8,[.cO],false⟩),
 (411,⟨Go.TypeDesc.unsafePointer,false,1,8,[.cO],false⟩),
 (419,⟨Go.TypeDesc.pointer 396,false,1,8,[.cO],false⟩),
 (423,⟨Go.TypeDesc.pointer 84,false,1,8,[.cO],false⟩),
 (427,⟨Go.TypeDesc.array 24 5,true,24,24,[.int .u8 0,.int .u8 0,.int .u8 0,.int .u8 0,.int .u8 0,.int .u8 0,.int .u8 0,.int .u8 0,.int .u8 0,.int .u8 0,.int .u8 0,.int .u8 0,.int .u8 0,.int .u8 0,.int .u8 0,.int .u8 0,.int .u8 0,.int .u8 0,.int .u8 0,.int .u8 0,.int .u8 0,.int .u8 0,.int .u8 0,.int .u8 0],false⟩),
 (436,⟨Go.TypeDesc.pointer 453,false,1,8,[.cO],false⟩),
 (439,⟨Go.TypeDesc.array 32 5,true,32,32,[.int .u8 0,.int .u8 0,.int .u8 0,.int .u8 0,.int .u8 0,.int .u8 0,.int .u8 0,.int .u8 0,.int .u8 0,.int .u8 0,.int .u8 0,.int .u8 0,.int .u8 0,.int .u8 0,.int .u8 0,.int .u8 0,.int .u8 0,.int .u8 0,.int .u8 0,.int .u8 0,.int .u8 0,.int .u8 0,.int .u8 0,.int .u8 0,.int .u8 0,.int .u8 0,.int .u8 0,.int .u8 0,.int .u8 0,.int .u8 0,.int .u8 0,.int .u8 0],false⟩),
 (440,⟨Go.TypeDesc.array 64 5,true,64,64,[.int .u8 0,.int .u8 0,.int .u8 0,.int .u8 0,.int .u8 0,.int .u8 0,.int .u8 0,.int .u8 0,.int .u8 0,.int .u8 0,.int .u8 0,.int .u8 0,.int .u8 0,.int .u8 0,.int .u8 0,.int .u8 0,.int .u8 0,.int .u8 0,.int .u8 0,.int .u8 0,.int .u8 0,.int .u8 0,.int .u8 0,.int .u8 0,.int .u8 0,.int .u8 0,.int .u8 0,.int .u8 0,.int .u8 0,.int .u8 0,.int .u8 0,.int .u8 0,.int .u8 0,.int .u8 0,.int .u8 0,.int .u8 0,.int .u8 0,.int .u8 0,.int .u8 0,.int .u8 0,.int .u8 0,.int .u8 0,.int .u8 0,.int .u8 0,.int .u8 0,.int .u8 0,.int .u8 0,.int .u8 0,.int .u8 0,.int .u8 0,.int .u8 0,.int .u8 0,.int .u8 0,.int .u8 0,.int .u8 0,.int .u8 0,.int .u8 0,.int .u8 0,.int .u8 0,.int .u8 0,.int .u8 0,.int .u8 0,.int .u8 0,.int .u8 0],false⟩),
 (443,⟨Go.TypeDesc.array 20 372,true,20,160,[.int .u64 0,.int .u64 0,.int .u64 0,.int .u64 0,.int .u64 0,.int .u64 0,.int .u64 0,.int .u64 0,.int .u64 0,.int .u64 0,.int .u64 0,.int .u64 0,.int .u64 0,.int .u64 0,.int .u64 0,.int .u64 0,.int .u64 0,.int .u64 0,.int .u64 0,.int .u64 0],false⟩),
 (444,⟨Go.TypeDesc.array 65 5,true,65,65,[.int .u8 0,.int .u8 0,.int .u8 0,.int .u8 0,.int .u8 0,.int .u8 0,.int .u8 0,.int .u8 0,.int .u8 0,.int .u8 0,.int .u8 0,.int .u8 0,.int .u8 0,.int .u8 0,.int .u8 0,.int .u8 0,.int .u8 0,.int .u8 0,.int .u8 0,.int .u8 0,.int .u8 0,.int .u8 0,.int .u8 0,.int .u8 0,.int .u8 0,.int .u8 0,.int .u8 0,.int .u8 0,.int .u8 0,.int .u8 0,.int .u8 0,.int .u8 0,.int .u8 0,.int .u8 0,.int .u8 0,.int .u8 0,.int .u8 0,.int .u8 0,.int .u8 0,.int .u8 0,.int .u8 0,.int .u8 0,.int .u8 0,.int .u8 0,.int .u8 0,.int .u8 0,.int .u8 0,.int .u8 0,.int .u8 0,.int .u8 0,.int .u8 0,.int .u8 0,.int .u8 0,.int .u8 0,.int .u8 0,.int .u8 0,.int .u8 0,.int .u8 0,.int .u8 0,.int .u8 0,.int .u8 0,.int .u8 0,.int .u8 0,.int .u8 0,.int .u8 0],false⟩),
 (445,⟨Go.TypeDesc.array 256 5,true,256,256,[.int .u8 0,.int .u8 0,.int .u8 0,.int .u8 0,.int .u8 0,.int .u8 0,.int .u8 0,.int .u8 0,.int .u8 0,.int .u8 0,.int .u8 0,.int .u8 0,.int .u8 0,.int .u8 0,.int .u8 0,.int .u8 0,.int .u8 0,.int .u8 0,.int .u8 0,.int .u8 0,.int .u8 0,.int .u8 0,.int .u8 0,.int .u8 0,.int .u8 0,.int .u8 0,.int .u8 0,.int .u8 0,.int .u8 0,.int .u8 0,.int .u8 0,.int .u8 0,.int .u8 0,.int .u8 0,.int .u8 0,.int .u8 0,.int .u8 0,.int .u8 0,.int .u8 0,.int .u8 0,.int .u8 0,.int .u8 0,.int .u8 0,.int .u8 0,.int .u8 0,.int .u8 0,.int .u8 0,.int .u8 0,.int .u8 0,.int .u8 0,.int .u8 0,.int .u8 0,.int .u8 0,.int .u8 0,.int .u8 0,.int .u8 0,.int .u8 0,.int .u8 0,.int .u8 0,.int .u8 0,.int .u8 0,.int .u8 0,.int .u8 0,.int .u8 0,.int .u8 0,.int .u8 0,.int .u8 0,.int .u8 0,.int .u8 0,.int .u8 0,.int .u8 0,.int .u8 0,.int .u8 0,.int .u8 0,.int .u8 0,.int .u8 0,.int .u8 0,.int .u8 0,.int .u8 0,.int .u8 0,.int .u8 0,.int .u8 0,.int .u8 0,.int .u8 0,.int .u8 0,.int .u8 0,.int .u8 0,.int .u8 0,.int .u8 0,.int .u8 0,.int .u8 0,.int .u8 0,.int .u8 0,.int .u8 0,.int .u8 0,.int .u8 0,.int .u8 0,.int .u8 0,.int .u8 0,.int .u8 0,.int .u8 0,.int .u8 0,.int .u8 0,.int .u8 0,.int .u8 0,.int .u8 0,.int .u8 0,.int .u8 0,.int .u8 0,.int .u8 0,.int .u8 0,.int .u8 0,.int .u8 0,.int .u8 0,.int .u8 0,.int .u8 0,.int .u8 0,.int .u8 0,.int .u8 0,.int .u8 0,.int .u8 0,.int .u8 0,.int .u8 0,.int .u8 0,.int .u8 0,.int .u8 0,.int .u8 0,.int .u8 0,.int .u8 0,.int .u8 0,.int .u8 0,.int .u8 0,.int .u8 0,.int .u8 0,.int .u8 0,.int .u8 0,.int .u8 0,.int .u8 0,.int .u8 0,.int .u8 0,.int .u8 0,.int .u8 0,.int .u8 0,.int .u8 0,.int .u8 0,.int .u8 0,.int .u8 0,.int .u8 0,.int .u8 0,.int .u8 0,.int .u8 0,.int .u8 0,.int .u8 0,.int .u8 0,.int .u8 0,.int .u8 0,.int .u8 0,.int .u8 0,.int .u8 0,.int .u8 0,.int .u8 0,.int .u8 0,.int .u8 0,.int .u8 0,.int .u8 0,.int .u8 0,.int .u8 0,.int .u8 0,.int .u8 0,.int .u8 0,.int .u8 0,.int .u8 0,.int .u8 0,.int .u8 0,.int .u8 0,.int .u8 0,.int .u8 0,.int .u8 0,.int .u8 0,.int .u8 0,.int .u8 0,.int .u8 0,.int .u8 0,.int .u8 0,.int .u8 0,.int .u8 0,.int .u8 0,.int .u8 0,.int .u8 0,.int .u8 0,.int .u8 0,.int .u8 0,.int .u8 0,.int .u8 0,.int .u8 0,.int .u8 0,.int .u8 0,.int .u8 0,.int .u8 0,.int .u8 0,.int .u8 0,.int .u8 0,.int .u8 0,.int .u8 0,.int .u8 0,.int .u8 0,.int .u8 0,.int .u8 0,.int .u8 0,.int .u8 0,.int .u8 0,.int .u8 0,.int .u8 0,.int .u8 0,.int .u8 0,.int .u8 0,.int .u8 0,.int .u8 0,.int .u8 0,.int .u8 0,.int .u8 0,.int .u8 0,.int .u8 0,.int .u8 0,.int .u8 0,.int .u8 0,.int .u8 0,.int .u8 0,.int .u8 0,.int .u8 0,.int .u8 0,.int .u8 0,.int .u8 0,.int .u8 0,.int .u8 0,.int .u8 0,.int .u8 0,.int .u8 0,.int .u8 0,.int .u8 0,.int .u8 0,.int .u8 0,.int .u8 0,.int .u8 0,.int .u8 0,.int .u8 0,.int .u8 0,.int .u8 0,.int .u8 0,.int .u8 0,.int .u8 0,.int .u8 0,.int .u8 0,.int .u8 0,.int .u8 0,.int .u8 0],false⟩),
 (447,⟨TypeDesc.struct #[⟨ "lo",5,0,false,"","unicode/utf8",0⟩,⟨ "hi",5,1,false,"","unicode/utf8",1⟩],true,2,2,[.int .u8 0,.int .u8 0],true⟩),
 (448,⟨Go.TypeDesc.array 16 447,true,32,32,[.int .u8 0,.int .u8 0,.int .u8 0,.int .u8 0,.int .u8 0,.int .u8 0,.int .u8 0,.int .u8 0,.int .u8 0,.int .u8 0,.int .u8 0,.int .u8 0,.int .u8 0,.int .u8 0,.int .u8 0,.int .u8 0,.int .u8 0,.int .u8 0,.int .u8 0,.int .u8 0,.int .u8 0,.int .u8 0,.int .u8 0,.int .u8 0,.int .u8 0,.int .u8 0,.int .u8 0,.int .u8 0,.int .u8 0,.int .u8 0,.int .u8 0,.int .u8 0],false⟩),
 (456,⟨Go.TypeDesc.pointer 458,false,1,8,[.cO],false⟩),
 (458,⟨TypeDesc.struct #[⟨ "s",9,0,false,"","errors",0⟩],true,1,16,[.str ⟨#[]⟩],false⟩)
]
def Tryz.tt:Nat->Option TI:=x6 Tryz.tl
theorem Tryz.tok:br Tryz.prog Tryz.tt:=
 (br.cons (aj.of Tryz.underlying1 rfl (i:=Tryz.t1) (by kernel_rfl) rfl rfl rfl rfl rfl (by kernel_rfl) (by intro h;cases h))
 (br.cons (aj.of Tryz.underlying2 rfl (i:=Tryz.t2) (by kernel_rfl) rfl rfl rfl rfl rfl (by kernel_rfl) (by intro h;cases h))
 (br.cons (aj.of Tryz.underlying3 rfl (i:=Tryz.t3) (by kernel_rfl) rfl rfl rfl rfl rfl (by kernel_rfl) (by intro h;cases h))
 (br.cons (aj.of Tryz.underlying4 rfl (i:=Tryz.t4) (by kernel_rfl) rfl rfl rfl rfl rfl (by kernel_rfl) (by intro h;cases h))
 (br.cons (aj.of Tryz.underlying5 rfl (i:=Tryz.t5) (by kernel_rfl) rfl rfl rfl rfl rfl (by kernel_rfl) (by intro h;cases h))
 (br.cons (aj.of Tryz.underlying9 rfl (i:=Tryz.t9) (by kernel_rfl) rfl rfl rfl rfl rfl (by kernel_rfl) (by intro h;cases h))
 (br.cons (aj.of Tryz.underlying21 rfl (i:=Tryz.t21) (by kernel_rfl) rfl rfl rfl rfl rfl (by kernel_rfl) (by intro h;cases h))
 (br.cons (aj.of Tryz.underlying22 rfl (i:=Tryz.t22) (by kernel_rfl) rfl rfl rfl rfl rfl (by kernel_rfl) (by intro h;cases h))
 (br.cons (aj.of Tryz.underlying24 rfl (i:=Tryz.t24) (by kernel_rfl) rfl rfl rfl rfl rfl (by kernel_rfl) (by intro h;cases h))
 (br.cons (aj.of Tryz.underlying25 rfl (i:=Tryz.t25) (by kernel_rfl) rfl rfl rfl rfl rfl (by kernel_rfl) (by intro h;cases h))
 (br.cons (aj.of Tryz.underlying27 rfl (i:=Tryz.t27) (by kernel_rfl) rfl rfl rfl rfl rfl (by kernel_rfl) (by intro h;cases h))
 (br.cons (aj.of Tryz.underlying29 rfl (i:=Tryz.t29) (by kernel_rfl) rfl rfl rfl rfl rfl (by kernel_rfl) (λ_=>gU Tryz.underlying29 Tryz.stoodInHeld29 Tryz.eqGuardType29 (by kernel_rfl) rfl))
 (br.cons (aj.of Tryz.underlying30 rfl (i:=Tryz.t30) (by kernel_rfl) rfl rfl rfl rfl rfl (by kernel_rfl) (by intro h;cases h))
 (br.cons (aj.of Tryz.underlying31 rfl (i:=Tryz.t31) (by kernel_rfl) rfl rfl rfl rfl rfl (by kernel_rfl) (by intro h;cases h))
 (br.cons (aj.of Tryz.underlying33 rfl (i:=Tryz.t33) (by kernel_rfl) rfl rfl rfl rfl rfl (by kernel_rfl) (by intro h;cases h))
 (br.cons (aj.of Tryz.underlying34 rfl (i:=Tryz.t34) (by kernel_rfl) rfl rfl rfl rfl rfl (by kernel_rfl) (by intro h;cases h))
 (br.cons (aj.of Tryz.underlying35 rfl (i:=Tryz.t35) (by kernel_rfl) rfl rfl rfl rfl rfl (by kernel_rfl) (by intro h;cases h))
 (br.cons (aj.of Tryz.underlying36 rfl (i:=Tryz.t36) (by kernel_rfl) rfl rfl rfl rfl rfl (by kernel_rfl) (by intro h;cases h))
 (br.cons (aj.of Tryz.underlying38 rfl (i:=Tryz.t38) (by kernel_rfl) rfl rfl rfl rfl rfl (by kernel_rfl) (by intro h;cases h))
 (br.cons (aj.of Tryz.underlying39 rfl (i:=Tryz.t39) (by kernel_rfl) rfl rfl rfl rfl rfl (by kernel_rfl) (by intro h;cases h))
 (br.cons (aj.of Tryz.underlying44 rfl (i:=Tryz.t44) (by kernel_rfl) rfl rfl rfl rfl rfl (by kernel_rfl) (by intro h;cases h))
 (br.cons (aj.of Tryz.underlying54 rfl (i:=Tryz.t54) (by kernel_rfl) rfl rfl rfl rfl rfl (by kernel_rfl) (by intro h;cases h))
 (br.cons (aj.of Tryz.underlying59 rfl (i:=Tryz.t59) (by kernel_rfl) rfl rfl rfl rfl rfl (by kernel_rfl) (by intro h;cases h))
 (br.cons (aj.of Tryz.underlying60 rfl (i:=Tryz.t60) (by kernel_rfl) rfl rfl rfl rfl rfl (by kernel_rfl) (by intro h;cases h))
 (br.cons (aj.of Tryz.underlying61 rfl (i:=Tryz.t61) (by kernel_rfl) rfl rfl rfl rfl rfl (by kernel_rfl) (by intro h;cases h))
 (br.cons (aj.of Tryz.underlying64 rfl (i:=Tryz.t64) (by kernel_rfl) rfl rfl rfl rfl rfl (by kernel_rfl) (by intro h;cases h))
 (br.cons (aj.of Tryz.underlying66 rfl (i:=Tryz.t66) (by kernel_rfl) rfl rfl rfl rfl rfl (by kernel_rfl) (by intro h;cases h))
 (br.cons (aj.of Tryz.underlying67 rfl (i:=Tryz.t67) (by kernel_rfl) rfl rfl rfl rfl rfl (by kernel_rfl) (by intro h;cases h))
 (br.cons (aj.of Tryz.underlying69 rfl (i:=Tryz.t69) (by kernel_rfl) rfl rfl rfl rfl rfl (by kernel_rfl) (by intro h;cases h))
 (br.cons (aj.of Tryz.underlying70 rfl (i:=Tryz.t70) (by kernel_rfl) rfl rfl rfl rfl rfl (by kernel_rfl) (by intro h;cases h))
 (br.cons (aj.of Tryz.underlying72 rfl (i:=Tryz.t72) (by kernel_rfl) rfl rfl rfl rfl rfl (by kernel_rfl) (by intro h;cases h))
 (br.cons (aj.of Tryz.underlying75 rfl (i:=Tryz.t75) (by kernel_rfl) rfl rfl rfl rfl rfl (by kernel_rfl) (by intro h;cases h))
 (br.cons (aj.of Tryz.underlying79 rfl (i:=Tryz.t79) (by kernel_rfl) rfl rfl rfl rfl rfl (by kernel_rfl) (by intro h;cases h))
 (br.cons (aj.of Tryz.underlying81 rfl (i:=Tryz.t81) (by kernel_rfl) rfl rfl rfl rfl rfl (by kernel_rfl) (by intro h;cases h))
 (br.cons (aj.of Tryz.underlying82 rfl (i:=Tryz.t82) (by kernel_rfl) rfl rfl rfl rfl rfl (by kernel_rfl) (by intro h;cases h))
 (br.cons (aj.of Tryz.underlying84 rfl (i:=Tryz.t84) (by kernel_rfl) rfl rfl rfl rfl rfl (by kernel_rfl) (by intro h;cases h))
 (br.cons (aj.of Tryz.underlying87 rfl (i:=Tryz.t87) (by kernel_rfl) rfl rfl rfl rfl rfl (by kernel_rfl) (by intro h;cases h))
 (br.cons (aj.of Tryz.underlying100 rfl (i:=Tryz.t100) (by kernel_rfl) rfl rfl rfl rfl rfl (by kernel_rfl) (by intro h;cases h))
 (br.cons (aj.of Tryz.underlying103 rfl (i:=Tryz.t103) (by kernel_rfl) rfl rfl rfl rfl rfl (by kernel_rfl) (by intro h;cases h))
 (br.cons (aj.of Tryz.underlying104 rfl (i:=Tryz.t104) (by kernel_rfl) rfl rfl rfl rfl rfl (by kernel_rfl) (by intro h;cases h))
 (br.cons (aj.of Tryz.underlying116 rfl (i:=Tryz.t116) (by kernel_rfl) rfl rfl rfl rfl rfl (by kernel_rfl) (by intro h;cases h))
 (br.cons (aj.of Tryz.underlying124 rfl (i:=Tryz.t124) (by kernel_rfl) rfl rfl rfl rfl rfl (by kernel_rfl) (λ_=>gU Tryz.underlying124 Tryz.stoodInHeld124 Tryz.eqGuardType124 (by kernel_rfl) rfl))
 (br.cons (aj.of Tryz.underlying138 rfl (i:=Tryz.t138) (by kernel_rfl) rfl rfl rfl rfl rfl (by kernel_rfl) (λ_=>gU Tryz.underlying138 Tryz.stoodInHeld138 Tryz.eqGuardType138 (by kernel_rfl) rfl))
 (br.cons (aj.of Tryz.underlying143 rfl (i:=Tryz.t143) (by kernel_rfl) rfl rfl rfl rfl rfl (by kernel_rfl) (by intro h;cases h))
 (br.cons (aj.of Tryz.underlying148 rfl (i:=Tryz.t148) (by kernel_rfl) rfl rfl rfl rfl rfl (by kernel_rfl) (by intro h;cases h))
 (br.cons (aj.of Tryz.underlying157 rfl (i:=Tryz.t157) (by kernel_rfl) rfl rfl rfl rfl rfl (by kernel_rfl) (λ_=>gU Tryz.underlying157 Tryz.stoodInHeld157 Tryz.eqGuardType157 (by kernel_rfl) rfl))
 (br.cons (aj.of Tryz.underlying164 rfl (i:=Tryz.t164) (by kernel_rfl) rfl rfl rfl rfl rfl (by kernel_rfl) (by intro h;cases h))
 (br.cons (aj.of Tryz.underlying167 rfl (i:=Tryz.t167) (by kernel_rfl) rfl rfl rfl rfl rfl (by kernel_rfl) (by intro h;cases h))
 (br.cons (aj.of Tryz.underlying168 rfl (i:=Tryz.t168) (by kernel_rfl) rfl rfl rfl rfl rfl (by kernel_rfl) (by intro h;cases h))
 (br.cons (aj.of Tryz.underlying172 rfl (i:=Tryz.t172) (by kernel_rfl) rfl rfl rfl rfl rfl (by kernel_rfl) (by intro h;cases h))
 (br.cons (aj.of Tryz.underlying173 rfl (i:=Tryz.t173) (by kernel_rfl) rfl rfl rfl rfl rfl (by kernel_rfl) (by intro h;cases h))
 (br.cons (aj.of Tryz.underlying174 rfl (i:=Tryz.t174) (by kernel_rfl) rfl rfl rfl rfl rfl (by kernel_rfl) (by intro h;cases h))
 (br.cons (aj.of Tryz.underlying177 rfl (i:=Tryz.t177) (by kernel_rfl) rfl rfl rfl rfl rfl (by kernel_rfl) (by intro h;cases h))
 (br.cons (aj.of Tryz.underlying178 rfl (i:=Tryz.t178) (by kernel_rfl) rfl rfl rfl rfl rfl (by kernel_rfl) (by intro h;cases h))
 (br.cons (aj.of Tryz.underlying180 rfl (i:=Tryz.t180) (by kernel_rfl) rfl rfl rfl rfl rfl (by kernel_rfl) (by intro h;cases h))
 (br.cons (aj.of Tryz.underlying185 rfl (i:=Tryz.t185) (by kernel_rfl) rfl rfl rfl rfl rfl (by kernel_rfl) (by intro h;cases h))
 (br.cons (aj.of Tryz.underlying187 rfl (i:=Tryz.t187) (by kernel_rfl) rfl rfl rfl rfl rfl (by kernel_rfl) (by intro h;cases h))
 (br.cons (aj.of Tryz.underlying195 rfl (i:=Tryz.t195) (by kernel_rfl) rfl rfl rfl rfl rfl (by kernel_rfl) (by intro h;cases h))
 (br.cons (aj.of Tryz.underlying197 rfl (i:=Tryz.t197) (by kernel_rfl) rfl rfl rfl rfl rfl (by kernel_rfl) (by intro h;cases h))
 (br.cons (aj.of Tryz.underlying202 rfl (i:=Tryz.t202) (by kernel_rfl) rfl rfl rfl rfl rfl (by kernel_rfl) (by intro h;cases h))
 (br.cons (aj.of Tryz.underlying207 rfl (i:=Tryz.t207) (by kernel_rfl) rfl rfl rfl rfl rfl (by kernel_rfl) (by intro h;cases h))
 (br.cons (aj.of Tryz.underlying212 rfl (i:=Tryz.t212) (by kernel_rfl) rfl rfl rfl rfl rfl (by kernel_rfl) (λ_=>Cc (fs1:=[_,_,_,_]) (z1:=[.str ⟨#[]⟩,.int .i64 0,.int .i64 0,.int .i64 0]) (z2:=[.int .i64 0,.int .i64 0]) Tryz.underlying212 Tryz.stoodInHeld212 Tryz.eqGuardType212 rfl (by kernel_rfl) Tryz.underlying29 Tryz.stoodInHeld29 (by kernel_rfl) (by decide) rfl (i:=Tryz.t29) (by kernel_rfl) rfl (by decide) rfl))
 (br.cons (aj.of Tryz.underlying214 rfl (i:=Tryz.t214) (by kernel_rfl) rfl rfl rfl rfl rfl (by kernel_rfl) (by intro h;cases h))
 (br.cons (aj.of Tryz.underlying216 rfl (i:=Tryz.t216) (by kernel_rfl) rfl rfl rfl rfl rfl (by kernel_rfl) (by intro h;cases h))
 (br.cons (aj.of Tryz.underlying221 rfl (i:=Tryz.t221) (by kernel_rfl) rfl rfl rfl rfl rfl (by kernel_rfl) (by intro h;cases h))
 (br.cons (aj.of Tryz.underlying222 rfl (i:=Tryz.t222) (by kernel_rfl) rfl rfl rfl rfl rfl (by kernel_rfl) (by intro h;cases h))
 (br.cons (aj.of Tryz.underlying223 rfl (i:=Tryz.t223) (by kernel_rfl) rfl rfl rfl rfl rfl (by kernel_rfl) (by intro h;cases h))
 (br.cons (aj.of Tryz.underlying226 rfl (i:=Tryz.t226) (by kernel_rfl) rfl rfl rfl rfl rfl (by kernel_rfl) (by intro h;cases h))
 (br.cons (aj.of Tryz.underlying227 rfl (i:=Tryz.t227) (by kernel_rfl) rfl rfl rfl rfl rfl (by kernel_rfl) (by intro h;cases h))
 (br.cons (aj.of Tryz.underlying236 rfl (i:=Tryz.t236) (by kernel_rfl) rfl rfl rfl rfl rfl (by kernel_rfl) (by intro h;cases h))
 (br.cons (aj.of Tryz.underlying240 rfl (i:=Tryz.t240) (by kernel_rfl) rfl rfl rfl rfl rfl (by kernel_rfl) (by intro h;cases h))
 (br.cons (aj.of Tryz.underlying243 rfl (i:=Tryz.t243) (by kernel_rfl) rfl rfl rfl rfl rfl (by kernel_rfl) (by intro h;cases h))
 (br.cons (aj.of Tryz.underlying244 rfl (i:=Tryz.t244) (by kernel_rfl) rfl rfl rfl rfl rfl (by kernel_rfl) (by intro h;cases h))
 (br.cons (aj.of Tryz.underlying245 rfl (i:=Tryz.t245) (by kernel_rfl) rfl rfl rfl rfl rfl (by kernel_rfl) (by intro h;cases h))
 (br.cons (aj.of Tryz.underlying247 rfl (i:=Tryz.t247) (by kernel_rfl) rfl rfl rfl rfl rfl (by kernel_rfl) (by intro h;cases h))
 (br.cons (aj.of Tryz.underlying252 rfl (i:=Tryz.t252) (by kernel_rfl) rfl rfl rfl rfl rfl (by kernel_rfl) (by intro h;cases h))
 (br.cons (aj.of Tryz.underlying254 rfl (i:=Tryz.t254) (by kernel_rfl) rfl rfl rfl rfl rfl (by kernel_rfl) (by intro h;cases h))
 (br.cons (aj.of Tryz.underlying256 rfl (i:=Tryz.t256) (by kernel_rfl) rfl rfl rfl rfl rfl (by kernel_rfl) (λ_=>gU Tryz.underlying256 Tryz.stoodInHeld256 Tryz.eqGuardType256 (by kernel_rfl) rfl))
 (br.cons (aj.of Tryz.underlying259 rfl (i:=Tryz.t259) (by kernel_rfl) rfl rfl rfl rfl rfl (by kernel_rfl) (by intro h;cases h))
 (br.cons (aj.of Tryz.underlying260 rfl (i:=Tryz.t260) (by kernel_rfl) rfl rfl rfl rfl rfl (by kernel_rfl) (by intro h;cases h))
 (br.cons (aj.of Tryz.underlying261 rfl (i:=Tryz.t261) (by kernel_rfl) rfl rfl rfl rfl rfl (by kernel_rfl) (by intro h;cases h))
 (br.cons (aj.of Tryz.underlying264 rfl (i:=Tryz.t264) (by kernel_rfl) rfl rfl rfl rfl rfl (by kernel_rfl) (by intro h;cases h))
 (br.cons (aj.of Tryz.underlying267 rfl (i:=Tryz.t267) (by kernel_rfl) rfl rfl rfl rfl rfl (by kernel_rfl) (by intro h;cases h))
 (br.cons (aj.of Tryz.underlying269 rfl (i:=Tryz.t269) (by kernel_rfl) rfl rfl rfl rfl rfl (by kernel_rfl) (by intro h;cases h))
 (br.cons (aj.of Tryz.underlying271 rfl (i:=Tryz.t271) (by kernel_rfl) rfl rfl rfl rfl rfl (by kernel_rfl) (by intro h;cases h))
 (br.cons (aj.of Tryz.underlying281 rfl (i:=Tryz.t281) (by kernel_rfl) rfl rfl rfl rfl rfl (by kernel_rfl) (by intro h;cases h))
 (br.cons (aj.of Tryz.underlying285 rfl (i:=Tryz.t285) (by kernel_rfl) rfl rfl rfl rfl rfl (by kernel_rfl) (by intro h;cases h))
 (br.cons (aj.of Tryz.underlying286 rfl (i:=Tryz.t286) (by kernel_rfl) rfl rfl rfl rfl rfl (by kernel_rfl) (by intro h;cases h))
 (br.cons (aj.of Tryz.underlying288 rfl (i:=Tryz.t288) (by kernel_rfl) rfl rfl rfl rfl rfl (by kernel_rfl) (by intro h;cases h))
 (br.cons (aj.of Tryz.underlying289 rfl (i:=Tryz.t289) (by kernel_rfl) rfl rfl rfl rfl rfl (by kernel_rfl) (by intro h;cases h))
 (br.cons (aj.of Tryz.underlying292 rfl (i:=Tryz.t292) (by kernel_rfl) rfl rfl rfl rfl rfl (by kernel_rfl) (by intro h;cases h))
 (br.cons (aj.of Tryz.underlying293 rfl (i:=Tryz.t293) (by kernel_rfl) rfl rfl rfl rfl rfl (by kernel_rfl) (by intro h;cases h))
 (br.cons (aj.of Tryz.underlying296 rfl (i:=Tryz.t296) (by kernel_rfl) rfl rfl rfl rfl rfl (by kernel_rfl) (by intro h;cases h))
 (br.cons (aj.of Tryz.underlying303 rfl (i:=Tryz.t303) (by kernel_rfl) rfl rfl rfl rfl rfl (by kernel_rfl) (by intro h;cases h))
 (br.cons (aj.of Tryz.underlying304 rfl (i:=Tryz.t304) (by kernel_rfl) rfl rfl rfl rfl rfl (by kernel_rfl) (by intro h;cases h))
 (br.cons (aj.of Tryz.underlying318 rfl (i:=Tryz.t318) (by kernel_rfl) rfl rfl rfl rfl rfl (by kernel_rfl) (by intro h;cases h))
 (br.cons (aj.of Tryz.underlying322 rfl (i:=Tryz.t322) (by kernel_rfl) rfl rfl rfl rfl rfl (by kernel_rfl) (by intro h;cases h))
 (br.cons (aj.of Tryz.underlying325 rfl (i:=Tryz.t325) (by kernel_rfl) rfl rfl rfl rfl rfl (by kernel_rfl) (by intro h;cases h))
 (br.cons (aj.of Tryz.underlying326 rfl (i:=Tryz.t326) (by kernel_rfl) rfl rfl rfl rfl rfl (by kernel_rfl) (by intro h;cases h))
 (br.cons (aj.of Tryz.underlying327 rfl (i:=Tryz.t327) (by kernel_rfl) rfl rfl rfl rfl rfl (by kernel_rfl) (by intro h;cases h))
 (br.cons (aj.of Tryz.underlying329 rfl (i:=Tryz.t329) (by kernel_rfl) rfl rfl rfl rfl rfl (by kernel_rfl) (by intro h;cases h))
 (br.cons (aj.of Tryz.underlying331 rfl (i:=Tryz.t331) (by kernel_rfl) rfl rfl rfl rfl rfl (by kernel_rfl) (by intro h;cases h))
 (br.cons (aj.of Tryz.underlying335 rfl (i:=Tryz.t335) (by kernel_rfl) rfl rfl rfl rfl rfl (by kernel_rfl) (by intro h;cases h))
 (br.cons (aj.of Tryz.underlying339 rfl (i:=Tryz.t339) (by kernel_rfl) rfl rfl rfl rfl rfl (by kernel_rfl) (by intro h;cases h))
 (br.cons (aj.of Tryz.underlying345 rfl (i:=Tryz.t345) (by kernel_rfl) rfl rfl rfl rfl rfl (by kernel_rfl) (by intro h;cases h))
 (br.cons (aj.of Tryz.underlying346 rfl (i:=Tryz.t346) (by kernel_rfl) rfl rfl rfl rfl rfl (by kernel_rfl) (by intro h;cases h))
 (br.cons (aj.of Tryz.underlying347 rfl (i:=Tryz.t347) (by kernel_rfl) rfl rfl rfl rfl rfl (by kernel_rfl) (by intro h;cases h))
 (br.cons (aj.of Tryz.underlying349 rfl (i:=Tryz.t349) (by kernel_rfl) rfl rfl rfl rfl rfl (by kernel_rfl) (by intro h;cases h))
 (br.cons (aj.of Tryz.underlying350 rfl (i:=Tryz.t350) (by kernel_rfl) rfl rfl rfl rfl rfl (by kernel_rfl) (by intro h;cases h))
 (br.cons (aj.of Tryz.underlying354 rfl (i:=Tryz.t354) (by kernel_rfl) rfl rfl rfl rfl rfl (by kernel_rfl) (by intro h;cases h))
 (br.cons (aj.of Tryz.underlying355 rfl (i:=Tryz.t355) (by kernel_rfl) rfl rfl rfl rfl rfl (by kernel_rfl) (by intro h;cases h))
 (br.cons (aj.of Tryz.underlying356 rfl (i:=Tryz.t356) (by kernel_rfl) rfl rfl rfl rfl rfl (by kernel_rfl) (by intro h;cases h))
 (br.cons (aj.of Tryz.underlying357 rfl (i:=Tryz.t357) (by kernel_rfl) rfl rfl rfl rfl rfl (by kernel_rfl) (by intro h;cases h))
 (br.cons (aj.of Tryz.underlying360 rfl (i:=Tryz.t360) (by kernel_rfl) rfl rfl rfl rfl rfl (by kernel_rfl) (by intro h;cases h))
 (br.cons (aj.of Tryz.underlying361 rfl (i:=Tryz.t361) (by kernel_rfl) rfl rfl rfl rfl rfl (by kernel_rfl) (by intro h;cases h))
 (br.cons (aj.of Tryz.underlying363 rfl (i:=Tryz.t363) (by kernel_rfl) rfl rfl rfl rfl rfl (by kernel_rfl) (by intro h;cases h))
 (br.cons (aj.of Tryz.underlying370 rfl (i:=Tryz.t370) (by kernel_rfl) rfl rfl rfl rfl rfl (by kernel_rfl) (by intro h;cases h))
 (br.cons (aj.of Tryz.underlying372 rfl (i:=Tryz.t372) (by kernel_rfl) rfl rfl rfl rfl rfl (by kernel_rfl) (by intro h;cases h))
 (br.cons (aj.of Tryz.underlying374 rfl (i:=Tryz.t374) (by kernel_rfl) rfl rfl rfl rfl rfl (by kernel_rfl) (λ_=>gU Tryz.underlying374 Tryz.stoodInHeld374 Tryz.eqGuardType374 (by kernel_rfl) rfl))
 (br.cons (aj.of Tryz.underlying377 rfl (i:=Tryz.t377) (by kernel_rfl) rfl rfl rfl rfl rfl (by kernel_rfl) (by intro h;cases h))
 (br.cons (aj.of Tryz.underlying381 rfl (i:=Tryz.t381) (by kernel_rfl) rfl rfl rfl rfl rfl (by kernel_rfl) (by intro h;cases h))
 (br.cons (aj.of Tryz.underlying383 rfl (i:=Tryz.t383) (by kernel_rfl) rfl rfl rfl rfl rfl (by kernel_rfl) (by intro h;cases h))
 (br.cons (aj.of Tryz.underlying385 rfl (i:=Tryz.t385) (by kernel_rfl) rfl rfl rfl rfl rfl (by kernel_rfl) (by intro h;cases h))
 (br.cons (aj.of Tryz.underlying390 rfl (i:=Tryz.t390) (by kernel_rfl) rfl rfl rfl rfl rfl (by kernel_rfl) (by intro h;cases h))
 (br.cons (aj.of Tryz.underlying394 rfl (i:=Tryz.t394) (by kernel_rfl) rfl rfl rfl rfl rfl (by kernel_rfl) (by intro h;cases h))
 (br.cons (aj.of Tryz.underlying395 rfl (i:=Tryz.t395) (by kernel_rfl) rfl rfl rfl rfl rfl (by kernel_rfl) (by intro h;cases h))
 (br.cons (aj.of Tryz.underlying396 rfl (i:=Tryz.t396) (by kernel_rfl) rfl rfl rfl rfl rfl (by kernel_rfl) (by intro h;cases h))
 (br.cons (aj.of Tryz.underlying400 rfl (i:=Tryz.t400) (by kernel_rfl) rfl rfl rfl rfl rfl (by kernel_rfl) (by intro h;cases h))
 (br.cons (aj.of Tryz.underlying411 rfl (i:=Tryz.t411) (by kernel_rfl) rfl rfl rfl rfl rfl (by kernel_rfl) (by intro h;cases h))
 (br.cons (aj.of Tryz.underlying419 rfl (i:=Tryz.t419) (by kernel_rfl) rfl rfl rfl rfl rfl (by kernel_rfl) (by intro h;cases h))
 (br.cons (aj.of Tryz.underlying423 rfl (i:=Tryz.t423) (by kernel_rfl) rfl rfl rfl rfl rfl (by kernel_rfl) (by intro h;cases h))
 (br.cons (aj.of Tryz.underlying427 rfl (i:=Tryz.t427) (by kernel_rfl) rfl rfl rfl rfl rfl (by kernel_rfl) (by intro h;cases h))
 (br.cons (aj.of Tryz.underlying436 rfl (i:=Tryz.t436) (by kernel_rfl) rfl rfl rfl rfl rfl (by kernel_rfl) (by intro h;cases h))
 (br.cons (aj.of Tryz.underlying439 rfl (i:=Tryz.t439) (by kernel_rfl) rfl rfl rfl rfl rfl (by kernel_rfl) (by intro h;cases h))
 (br.cons (aj.of Tryz.underlying440 rfl (i:=Tryz.t440) (by kernel_rfl) rfl rfl rfl rfl rfl (by kernel_rfl) (by intro h;cases h))
 (br.cons (aj.of Tryz.underlying443 rfl (i:=Tryz.t443) (by kernel_rfl) rfl rfl rfl rfl rfl (by kernel_rfl) (by intro h;cases h))
 (br.cons (aj.of Tryz.underlying444 rfl (i:=Tryz.t444) (by kernel_rfl) rfl rfl rfl rfl rfl (by kernel_rfl) (by intro h;cases h))
 (br.cons (aj.of Tryz.underlying445 rfl (i:=Tryz.t445) (by kernel_rfl) rfl rfl rfl rfl rfl (by kernel_rfl) (by intro h;cases h))
 (br.cons (aj.of Tryz.underlying447 rfl (i:=Tryz.t447) (by kernel_rfl) rfl rfl rfl rfl rfl (by kernel_rfl) (λ_=>gU Tryz.underlying447 Tryz.stoodInHeld447 Tryz.eqGuardType447 (by kernel_rfl) rfl))
 (br.cons (aj.of Tryz.underlying448 rfl (i:=Tryz.t448) (by kernel_rfl) rfl rfl rfl rfl rfl (by kernel_rfl) (by intro h;cases h))
 (br.cons (aj.of Tryz.underlying456 rfl (i:=Tryz.t456) (by kernel_rfl) rfl rfl rfl rfl rfl (by kernel_rfl) (by intro h;cases h))
 (br.cons (aj.of Tryz.underlying458 rfl (i:=Tryz.t458) (by kernel_rfl) rfl rfl rfl rfl rfl (by kernel_rfl) (by intro h;cases h))
 br.nil))))))))))))))))))))))))))))))))))))))))))))))))))))))))))))))))))))))))))))))))))))))))))))))))))))))))))))))))))))))))))))))))))))))))))))))
theorem Tryz.mixed:Tryz.prog.follows .mixedOrders=true:=by kernel_rfl
end Go.Proofs
namespace Go.Proofs.Ball
open Go.V Go.Proofs
def Ct:List Int:=[0,1,56,2,57,49,28,3,61,58,42,50,38,29,17,4,62,47,59,36,45,43,51,22,53,39,33,30,24,18,12,5,63,55,48,27,60,41,37,16,46,35,44,21,52,32,23,11,54,26,40,15,34,20,31,10,25,14,19,9,13,8,7,6]
instance glb:aM:=⟨λg off=>match g with
 |2=>(match Ct[off]? with|some n=>some (.u8,n)|none=>none)
 |3=>(match Nat.blt off 20 with|true=>some (.u64,((10^off:Nat):Int))|false=>none)
 |_=>none,λg=>match g with|3=>some 20|_=>none⟩
abbrev DN:=Den Tryz.prog
abbrev DP:=Hb Tryz.prog
abbrev DY:=lA Tryz.prog
abbrev IT:=jR Tryz.prog
abbrev Y7:er:=⟨λk=>or (Nat.beq k 90) (or (Nat.beq k 91) (or (Nat.beq k 178) (or (Nat.beq k 225) (Nat.beq k 242)))),λk=>Nat.beq k 225,none⟩
abbrev Ak:Nat->Bool:=λ_=>false
theorem mk{f:FuncId}{fn:Func}(hf:Tryz.prog.funcs[f]?=some fn)(he:Enters Tryz.prog f)(hb:gB fn=true){args:List D}{d:D}(hn:Nat.ble args.length fn.ntmps=true)(h:Body Tryz.tt (CD Tryz.prog Y7) (nc Tryz.prog Ak) fn args d):DN f args d:=
 zE Tryz.tok Tryz.mixed hf he hb hn h
theorem Un{f:FuncId}{fn:Func}(hf:Tryz.prog.funcs[f]?=some fn)(he:Enters Tryz.prog f)(hb:gB fn=true){args:List D}{bs:List af}{y:eG}{Q:D->List af->eG->Prop}(hn:Nat.ble args.length fn.ntmps=true)(h:A4 Tryz.tt (CD Tryz.prog Y7) (nc Tryz.prog Ak) fn args bs y Q):DY f args bs y Q:=
 Gk Tryz.tok Tryz.mixed hf he hb hn h
theorem WM{f:FuncId}{fn:Func}(hf:Tryz.prog.funcs[f]?=some fn)(he:Enters Tryz.prog f)(hb:gB fn=true){args:List D}{xs:List (List D)}(hn:Nat.ble (args.length+1) fn.ntmps=true)(h:nz Tryz.tt (CD Tryz.prog Y7) (nc Tryz.prog Ak) fn args xs):IT f args xs:=
 Gj Tryz.tok Tryz.mixed hf he hb hn h
def aC(n:Int):List D:=[.int .i64 n]
theorem rn{l:List Int}{i:Nat}(h:i<l.length):(l.map aC)[((i:Int)).toNat]?=some [.int .i64 l[i]]:=by simp[h,aC]
theorem Lv(l:List Int):(l.map aC).length=l.length:=List.length_map ..
theorem toN(i:Nat):((i:Int)).toNat=i:=Int.toNat_natCast i
theorem aV{α:Type}{e:α->List D}{l:List α}{i:Nat}{x:α}(h:l[i]?=some x):(l.map e)[((i:Int)).toNat]?=some (e x):=by rw[toN,List.getElem?_map,h];rfl
theorem bD{α:Type}(e:α->List D)(l:List α):((l.map e).length:Int)=l.length:=by simp
def aY{α:Type}(p:α->Bool):List α->Int->Int
 |[],_=>-1
 |b::r,i=>match p b with|true=>i|false=>aY p r (i+1)
theorem eP{α:Type}(p:α->Bool):∀(bs:List α)(i:Int),0<=i->(decide (aY p bs i>=0))=bs.any p
 |[],i,_=>rfl
 |b::r,i,hi=>by
  cases hb:p b with
  |true=>simp[aY,hb,hi]
  |false=>
   have:=eP p r (i+1) (by omega);simp only[aY,hb,List.any_cons,Bool.false_or];exact this
def rp(T:Nat->Nat):Nat->Nat->List (List D)
 |0,_=>[]
 |f+1,x=>match Nat.beq x 0 with
  |true=>[]
  |false=>[.int .i64 (T x)]::rp T f (x&&&(x-1))
theorem ym{n:Int}(h0:0<=n)(h1:n<18446744073709551616):IntKind.u64.wrap n=n:=by
 show(n %18446744073709551616:Int)=n;exact Int.emod_eq_of_lt h0 h1
theorem od{a:Nat}(ha:a<2^62):(BitVec.ofInt 64 (a:Int)).toNat=a:=by
 rw[BitVec.ofInt_natCast,BitVec.toNat_ofNat];exact Nat.mod_eq_of_lt (by omega)
theorem wC{a b:Nat}(ha:a<2^62)(hb:b<2^62):bits .and .u64 a b=((a&&&b:Nat):Int):=by
 have h1:a&&&b<=a:=Nat.and_le_left;show IntKind.u64.wrap (((BitVec.ofInt 64 (a:Int)&&&BitVec.ofInt 64 (b:Int)).toNat:Nat):Int)=_;rw[BitVec.toNat_and,od ha,od hb];exact ym (by omega) (by omega)
theorem WN(T:Nat->Nat)(hd:∀x:Nat,0<x->x<128->DN 280 [.int .u64 x] (.int .i64 (T x)))(n:Nat)(hn:n<128):IT 279 [.ro [.int .i64 n]] (rp T n n):=by
 refine WM Tryz.func279 Tryz.call279 rfl rfl ?_;intro l;refine⟨(n:Int),ym (by omega) (by omega),?_⟩;refine⟨[0,1,3],0,[],λU=>∃x f:Nat,x<=f/\x<128/\
  U=⟨[(0,.j8 l),(1,.ro [.int .i64 n]),(3,.int .u64 x)],[],.rem l (rp T f x)⟩,λU=>(aZ 3 U).toNat,rfl,⟨rfl,rfl⟩,⟨n,n,Nat.le_refl _,hn,rfl⟩,?_⟩
 rintro U⟨x,f,hf,hx,rfl⟩;refine⟨λh1=>?_,λh1=>?_⟩
 .have JS:x≠0:=λe=>by subst e;exact absurd h1 (by decide)
  obtain⟨g,rfl⟩:∃g,f=g+1:=⟨f-1,by omega⟩;have hb:Nat.beq x 0=false:=by cases x with|zero=>exact absurd rfl JS|succ x=>rfl
  have hl:rp T (g+1) x=[.int .i64 (T x)]::rp T g (x&&&(x-1)):=by
   show(match Nat.beq x 0 with|true=>[]|false=>[D.int .i64 (T x)]::rp T g (x&&&(x-1)))=_;rw[hb]
  have hle:x&&&(x-1)<=x-1:=Nat.and_le_right;rw[hl];refine⟨_,rfl,_,hd x (by omega) hx,?_⟩;refine⟨rfl,⟨_,rfl,rfl⟩,?_,?_⟩
  .refine⟨((x-1:Nat):Int),(ym (by omega) (by omega)).trans (by omega),?_⟩
   refine⟨((x&&&(x-1):Nat):Int),wC (by omega) (by omega),?_⟩;refine⟨⟨rfl,rfl⟩,⟨x&&&(x-1),g,by omega,by omega,rfl⟩,?_⟩;show((x&&&(x-1):Nat):Int).toNat<((x:Nat):Int).toNat;omega
  rfl
 have JS:x=0:=by
   cases x with
   |zero=>rfl
   |succ x=>exact absurd h1 (by simp;omega)
 subst JS;have hl:rp T f 0=[]:=by cases f<;>rfl
 rw[hl];rfl
theorem Lw(n:Int):DN 239 [.int .i64 n] (.bR (.func 279) [] [.ro [.int .i64 n]]):=by
 refine mk Tryz.func239 Tryz.call239 rfl rfl ?_;rfl
def hY(a b:Nat):Nat:=a^^^(a&&&b)
theorem Ia(a b i:Nat):(hY a b).testBit i=(a.testBit i&&!(b.testBit i)):=by
 unfold hY;rw[Nat.testBit_xor,Nat.testBit_and];cases a.testBit i<;>cases b.testBit i<;>rfl
theorem Lx{a b n:Nat}(ha:a<2^n):hY a b<2^n:=by
 unfold hY;exact Nat.xor_lt_two_pow ha (Nat.lt_of_le_of_lt Nat.and_le_left ha)
theorem mz{a b:Nat}(ha:a<2^62)(hb:b<2^62):bits .andNot .i64 a b=((hY a b:Nat):Int):=by
 have h2:(BitVec.ofInt 64 (a:Int)&&&~~~(BitVec.ofInt 64 (b:Int))).toNat=hY a b:=by
  apply Nat.eq_of_testBit_eq;intro i;rw[Ia,BitVec.toNat_and,Nat.testBit_and,od ha];rcases Nat.lt_or_ge i 64 with hi|hi
  .congr 1
   rw[BitVec.testBit_toNat,BitVec.getLsbD_not,<-BitVec.testBit_toNat,od hb];simp[hi]
  have h3:a.testBit i=false:=Nat.testBit_lt_two_pow (Nat.lt_of_lt_of_le ha (Nat.pow_le_pow_right (by decide) (by omega)));simp[h3]
 have h1:hY a b<2^62:=Lx ha;show IntKind.i64.wrap (((BitVec.ofInt 64 (a:Int)&&&~~~(BitVec.ofInt 64 (b:Int))).toNat:Nat):Int)=_;rw[h2];exact wrap64 (by omega) (by omega)
theorem R6(i:Nat)(h:i<=60):IntKind.i64.wrap (1*2^(min (i:Int).toNat IntKind.i64.bits))=((2^i:Nat):Int):=by
 have h1:min (i:Int).toNat IntKind.i64.bits=i:=by show min i 64=i;omega
 have h2:2^i<2^61:=Nat.pow_lt_pow_right (by decide) (by omega);have h3:(1:Int)*2^i=((2^i:Nat):Int):=by rw[Int.one_mul];exact(Int.natCast_pow 2 i).symm
 rw[h1,h3];have h4:∀q:Nat,q<2^61->IntKind.i64.wrap (q:Int)=q:=λq hq=>wrap64 (by omega) (by omega);exact h4 _ h2
def l9(i:Nat):List D:=[.int .i64 i]
def Ib(n i:Nat):List D:=[.int .i64 i,.int .i64 (hY n (2^i))]
def rq(w:Nat->Nat)(xs:List Nat):List Nat:=xs.filter λi=>Nat.beq (w i) 0
theorem WO(S:List D)(n:Nat)(xs:List Nat)(hx:IT 279 [.ro [.int .i64 n]] (xs.map l9))(aaU:∀i∈xs,i<60)(hn:n<2^60)(w:Nat->Nat)(hw:∀i∈xs,DN 100 [.ro S,.int .i64 n,.int .i64 i] (.int .i64 (w i))):
    IT 238 [.ro [.int .i64 n],.ro [.ro S]] ((rq w xs).map (Ib n)):=by
  refine WM Tryz.func238 Tryz.call238 rfl rfl ?_;intro l;refine⟨_,rfl,_,Lw n,?_⟩;refine⟨rfl,_,rfl,_,hx,1,[],λj bs y=>bs=[.flat false [.j8 l]]/\y=.rem l ((rq w (xs.drop j)).map (Ib n)),rfl,rfl,rfl,⟨rfl,rfl⟩,?_,?_,?_⟩
  .rintro j x bs y hj⟨rfl,rfl⟩
   rw[List.getElem?_map]at hj;obtain⟨i,hi,rfl⟩:=Option.map_eq_some_iff.1 hj;have eX:=List.mem_of_getElem? hi;have cG:=(List.getElem?_eq_some_iff.1 hi).1;have sZ:xs.drop j=i::xs.drop (j+1):=by rw[List.drop_eq_getElem_cons cG,(List.getElem?_eq_some_iff.1 hi).2]
   rw[sZ];refine .inr (.inr (.inr (.inl ⟨12,rfl,?_⟩)));refine⟨_,rfl,_,hw i eX,?_⟩;refine⟨λhz=>?_,λhz=>?_⟩
   · have Uo:rq w (i::xs.drop (j+1))=i::rq w (xs.drop (j+1)):=by
       unfold rq;rw[List.filter_cons_of_pos];have h1:((w i:Nat):Int)=0:=by simpa using hz
       have h2:w i=0:=by omega
       rw[h2];rfl
     rw[Uo];have hi6:=aaU i eX;refine⟨Int.natCast_nonneg i,((2^i:Nat):Int),R6 i (by omega),?_⟩;refine⟨((hY n (2^i):Nat):Int),mz (Nat.lt_of_lt_of_le hn (by decide)) (Nat.pow_lt_pow_right (by decide) (by omega)),?_⟩;refine⟨rfl,⟨_,rfl,rfl⟩,?_,?_⟩
     .exact⟨rfl,rfl,rfl⟩
     rfl
   · have Uo:rq w (i::xs.drop (j+1))=rq w (xs.drop (j+1)):=by
       unfold rq;rw[List.filter_cons_of_neg];intro h;have h2:=Nat.eq_of_beq_eq_true h;rw[h2]at hz;exact absurd hz (by decide)
     rw[Uo];exact⟨rfl,rfl,rfl⟩
  .intro x hx
   obtain⟨i,_,rfl⟩:=List.mem_map.1 hx;exact⟨rfl,rfl⟩
  rintro bs y⟨rfl,rfl⟩;rw[List.length_map,List.drop_length];rfl
abbrev shN:er:=⟨λ_=>false,λ_=>false,none⟩
theorem dX{f:FuncId}{fn:Func}(hf:Tryz.prog.funcs[f]?=some fn)(he:Enters Tryz.prog f)(hb:gB fn=true){args:List D}{d:D}(hn:Nat.ble args.length fn.ntmps=true)(h:Body Tryz.tt (CD Tryz.prog shN) (nc Tryz.prog Ak) fn args d):DN f args d:=
 zE Tryz.tok Tryz.mixed hf he hb hn h
structure Kp(cap:List D):Prop where
 ok:∀nb,da nb cap=true
 r7:∀bs,bY (reify bs 7) cap=some cap
 r8:∀bs,bY (reify bs 8) cap=some cap
theorem Kp.bR{k:Nat}{cap:List D}(hc:Kp cap)(bs:List af):reify bs 8 (.bR (.func k) [] cap)=some (.bR (.func k) [] cap):=by
 show(match bY (reify bs 7) cap with|none=>none|some m=>some (D.bR (.func k) [] m))=_;rw[hc.r7]
theorem Kp.tm{k nb sz t1 t2 t3 t4:Nat}{rows:List (List D)}{n m:Int}{cap:List D}(hc:Kp cap):fF nb [(t1,.list sz rows),(t2,.bR (.func k) [] cap),(t3,.int .i64 n),(t4,.int .i64 m)]=true:=by
 simp only[fF,en,da,hc.ok]
theorem Kp.tm6{k nb sz sz2 t1 t2 t3 t4 t5 t6:Nat}{rows WQ:List (List D)}{n m q:Int}{cap:List D}(hc:Kp cap):fF nb [(t1,.list sz rows),(t5,.int .i64 q),(t2,.bR (.func k) [] cap),(t6,.list sz2 WQ),(t3,.int .i64 n),(t4,.int .i64 m)]=true:=by
 simp only[fF,en,da,hc.ok]
structure Pt where
 name:ByteArray
 pos:Int
 tI:Int
 uH:Int
 jE:Int
 Cu:Int
 Al:Int
def Pt.enc(x:Pt):List D:=[.str x.name,.int .i64 x.pos,.int .i64 x.tI,.int .i64 x.uH,.int .i64 x.jE,.int .i64 x.Cu,.int .i64 x.Al]
def eM(s:ByteArray):List D:=[.str s]
structure Hp where
 name:ByteArray
 kind:Int
 first:Int
 last:Int
 on:List ByteArray
 tI:Int
 uH:Int
def Hp.enc(x:Hp):List D:=[.str x.name,.int .i64 x.kind,.int .i64 x.first,.int .i64 x.last,.list 1 (x.on.map eM),.int .i64 x.tI,.int .i64 x.uH]
structure Tk where
 name:ByteArray
 kept:Bool
def Tk.enc(t:Tk):List D:=[.str t.name,.bool t.kept]
theorem R7{k:Nat}{cap:List D}(hc:Kp cap)(p:Int->Bool)(l:List Int)(hl:l.length<9223372036854775808)(hd:∀x∈l,DN k (.int .i64 x::cap) (.bool (p x))):DN 177 [.list 1 (l.map aC),.bR (.func k) [] cap] (.int .i64 (aY p l 0)):=by
 refine dX Tryz.func177 Tryz.call177 rfl rfl ?_;have hlen:=bD aC l;refine⟨[0,1,7,8],0,[],λU=>∃i:Nat,i<=l.length/\aY p l 0=aY p (l.drop i) i/\U=⟨[(0,.list 1 (l.map aC)),(1,.bR (.func k) [] cap),(7,.int .i64 (l.map aC).length),(8,.int .i64 i)],[],.aQ⟩,λU=>((l.length:Int)-aZ 8 U).toNat,rfl,⟨hc.tm,rfl⟩,⟨0,Nat.zero_le _,rfl,rfl⟩,?_⟩;rintro U⟨i,bC,hf,rfl⟩;refine⟨λh1=>?_,λh1=>?_⟩
 .have h1:=of_decide_eq_true h1
  rw[hlen]at h1;have bC:i<l.length:=by omega
  have aI:=aV (e:=aC) (List.getElem?_eq_getElem bC);have ea:l.drop i=l[i]::l.drop (i+1):=List.drop_eq_getElem_cons bC;rw[ea,aY]at hf;refine⟨by omega,_,aI,?_⟩;refine⟨_,ag rfl (hc.r8 _),_,hd l[i] (List.getElem_mem bC),?_⟩;refine⟨λh2=>?_,λh2=>?_⟩
  .rw[h2]at hf
   show some (D.int .i64 (i:Int))=some (D.int .i64 (aY p l 0));rw[hf]
  rw[h2]at hf;refine⟨_,wrap64 (by omega) (by omega),?_⟩;refine⟨⟨hc.tm,rfl⟩,⟨i+1,bC,hf,rfl⟩,?_⟩;show((l.length:Int)-((i:Int)+1)).toNat<((l.length:Int)-(i:Int)).toNat;omega
 have h1:=of_decide_eq_false h1;rw[hlen]at h1;show some (D.int .i64 (-1))=some (D.int .i64 (aY p l 0));rw[hf,List.drop_of_length_le (by omega)];rfl
theorem Cv{k:Nat}{cap:List D}(hc:Kp cap)(p:Int->Bool)(l:List Int)(hl:l.length<9223372036854775808)(hd:∀x∈l,DN k (.int .i64 x::cap) (.bool (p x))):DN 87 [.list 1 (l.map aC),.bR (.func k) [] cap] (.bool (l.any p)):=by
 refine dX Tryz.func87 Tryz.call87 rfl rfl ?_;refine⟨_,ag rfl (ag (hc.bR _) rfl),_,R7 hc p l hl hd,?_⟩;show some (D.bool _)=some (D.bool _);rw[<-eP p l 0 (Int.le_refl 0)]
theorem R8{k:Nat}{cap:List D}(hc:Kp cap)(p:Pt->Bool)(l:List Pt)(hl:l.length<9223372036854775808)(hd:∀x∈l,DN k (.agg x.enc::cap) (.bool (p x))):DN 176 [.list 7 (l.map Pt.enc),.bR (.func k) [] cap] (.int .i64 (aY p l 0)):=by
 refine dX Tryz.func176 Tryz.call176 rfl rfl ?_;have hlen:=bD Pt.enc l;refine⟨[0,1,7,8],0,[],λU=>∃i:Nat,i<=l.length/\aY p l 0=aY p (l.drop i) i/\U=⟨[(0,.list 7 (l.map Pt.enc)),(1,.bR (.func k) [] cap),(7,.int .i64 (l.map Pt.enc).length),(8,.int .i64 i)],[],.aQ⟩,λU=>((l.length:Int)-aZ 8 U).toNat,rfl,⟨hc.tm,rfl⟩,⟨0,Nat.zero_le _,rfl,rfl⟩,?_⟩;rintro U⟨i,bC,hf,rfl⟩;refine⟨λh1=>?_,λh1=>?_⟩
 .have h1:=of_decide_eq_true h1
  rw[hlen]at h1;have bC:i<l.length:=by omega
  have aI:=aV (e:=Pt.enc) (List.getElem?_eq_getElem bC);have ea:l.drop i=l[i]::l.drop (i+1):=List.drop_eq_getElem_cons bC;rw[ea,aY]at hf;refine⟨by omega,_,aI,?_⟩;refine⟨_,ag rfl (hc.r8 _),_,hd l[i] (List.getElem_mem bC),?_⟩;refine⟨λh2=>?_,λh2=>?_⟩
  .rw[h2]at hf
   show some (D.int .i64 (i:Int))=some (D.int .i64 (aY p l 0));rw[hf]
  rw[h2]at hf;refine⟨_,wrap64 (by omega) (by omega),?_⟩;refine⟨⟨hc.tm,rfl⟩,⟨i+1,bC,hf,rfl⟩,?_⟩;show((l.length:Int)-((i:Int)+1)).toNat<((l.length:Int)-(i:Int)).toNat;omega
 have h1:=of_decide_eq_false h1;rw[hlen]at h1;show some (D.int .i64 (-1))=some (D.int .i64 (aY p l 0));rw[hf,List.drop_of_length_le (by omega)];rfl
theorem WS{k:Nat}{cap:List D}(hc:Kp cap)(p:Pt->Bool)(l:List Pt)(hl:l.length<9223372036854775808)(hd:∀x∈l,DN k (.agg x.enc::cap) (.bool (p x))):DN 84 [.list 7 (l.map Pt.enc),.bR (.func k) [] cap] (.bool (l.any p)):=by
 refine dX Tryz.func84 Tryz.call84 rfl rfl ?_;refine⟨_,ag rfl (ag (hc.bR _) rfl),_,R8 hc p l hl hd,?_⟩;show some (D.bool _)=some (D.bool _);rw[<-eP p l 0 (Int.le_refl 0)]
theorem R9{k:Nat}{cap:List D}(hc:Kp cap)(p:ByteArray->Bool)(l:List ByteArray)(hl:l.length<9223372036854775808)(hd:∀x∈l,DN k (.str x::cap) (.bool (p x))):DN 205 [.list 1 (l.map eM),.bR (.func k) [] cap] (.int .i64 (aY p l 0)):=by
 refine dX Tryz.func205 Tryz.call205 rfl rfl ?_;have hlen:=bD eM l;refine⟨[0,1,7,8],0,[],λU=>∃i:Nat,i<=l.length/\aY p l 0=aY p (l.drop i) i/\U=⟨[(0,.list 1 (l.map eM)),(1,.bR (.func k) [] cap),(7,.int .i64 (l.map eM).length),(8,.int .i64 i)],[],.aQ⟩,λU=>((l.length:Int)-aZ 8 U).toNat,rfl,⟨hc.tm,rfl⟩,⟨0,Nat.zero_le _,rfl,rfl⟩,?_⟩;rintro U⟨i,bC,hf,rfl⟩;refine⟨λh1=>?_,λh1=>?_⟩
 .have h1:=of_decide_eq_true h1
  rw[hlen]at h1;have bC:i<l.length:=by omega
  have aI:=aV (e:=eM) (List.getElem?_eq_getElem bC);have ea:l.drop i=l[i]::l.drop (i+1):=List.drop_eq_getElem_cons bC;rw[ea,aY]at hf;refine⟨by omega,_,aI,?_⟩;refine⟨_,ag rfl (hc.r8 _),_,hd l[i] (List.getElem_mem bC),?_⟩;refine⟨λh2=>?_,λh2=>?_⟩
  .rw[h2]at hf
   show some (D.int .i64 (i:Int))=some (D.int .i64 (aY p l 0));rw[hf]
  rw[h2]at hf;refine⟨_,wrap64 (by omega) (by omega),?_⟩;refine⟨⟨hc.tm,rfl⟩,⟨i+1,bC,hf,rfl⟩,?_⟩;show((l.length:Int)-((i:Int)+1)).toNat<((l.length:Int)-(i:Int)).toNat;omega
 have h1:=of_decide_eq_false h1;rw[hlen]at h1;show some (D.int .i64 (-1))=some (D.int .i64 (aY p l 0));rw[hf,List.drop_of_length_le (by omega)];rfl
theorem Ly{k:Nat}{cap:List D}(hc:Kp cap)(p:ByteArray->Bool)(l:List ByteArray)(hl:l.length<9223372036854775808)(hd:∀x∈l,DN k (.str x::cap) (.bool (p x))):DN 120 [.list 1 (l.map eM),.bR (.func k) [] cap] (.bool (l.any p)):=by
 refine dX Tryz.func120 Tryz.call120 rfl rfl ?_;refine⟨_,ag rfl (ag (hc.bR _) rfl),_,R9 hc p l hl hd,?_⟩;show some (D.bool _)=some (D.bool _);rw[<-eP p l 0 (Int.le_refl 0)]
theorem Lz{k:Nat}{cap:List D}(hc:Kp cap)(p:Hp->Bool)(l:List Hp)(hl:l.length<9223372036854775808)(hd:∀x∈l,DN k (.agg x.enc::cap) (.bool (p x))):DN 203 [.list 7 (l.map Hp.enc),.bR (.func k) [] cap] (.int .i64 (aY p l 0)):=by
 refine dX Tryz.func203 Tryz.call203 rfl rfl ?_;have hlen:=bD Hp.enc l;refine⟨[0,1,7,8],0,[],λU=>∃i:Nat,i<=l.length/\aY p l 0=aY p (l.drop i) i/\U=⟨[(0,.list 7 (l.map Hp.enc)),(1,.bR (.func k) [] cap),(7,.int .i64 (l.map Hp.enc).length),(8,.int .i64 i)],[],.aQ⟩,λU=>((l.length:Int)-aZ 8 U).toNat,rfl,⟨hc.tm,rfl⟩,⟨0,Nat.zero_le _,rfl,rfl⟩,?_⟩;rintro U⟨i,bC,hf,rfl⟩;refine⟨λh1=>?_,λh1=>?_⟩
 .have h1:=of_decide_eq_true h1
  rw[hlen]at h1;have bC:i<l.length:=by omega
  have aI:=aV (e:=Hp.enc) (List.getElem?_eq_getElem bC);have ea:l.drop i=l[i]::l.drop (i+1):=List.drop_eq_getElem_cons bC;rw[ea,aY]at hf;refine⟨by omega,_,aI,?_⟩;refine⟨_,ag rfl (hc.r8 _),_,hd l[i] (List.getElem_mem bC),?_⟩;refine⟨λh2=>?_,λh2=>?_⟩
  .rw[h2]at hf
   show some (D.int .i64 (i:Int))=some (D.int .i64 (aY p l 0));rw[hf]
  rw[h2]at hf;refine⟨_,wrap64 (by omega) (by omega),?_⟩;refine⟨⟨hc.tm,rfl⟩,⟨i+1,bC,hf,rfl⟩,?_⟩;show((l.length:Int)-((i:Int)+1)).toNat<((l.length:Int)-(i:Int)).toNat;omega
 have h1:=of_decide_eq_false h1;rw[hlen]at h1;show some (D.int .i64 (-1))=some (D.int .i64 (aY p l 0));rw[hf,List.drop_of_length_le (by omega)];rfl
theorem Sa{k:Nat}{cap:List D}(hc:Kp cap)(p:Hp->Bool)(l:List Hp)(hl:l.length<9223372036854775808)(hd:∀x∈l,DN k (.agg x.enc::cap) (.bool (p x))):DN 287 [.list 7 (l.map Hp.enc),.bR (.func k) [] cap] (.bool (l.any p)):=by
 refine dX Tryz.func287 Tryz.call287 rfl rfl ?_;refine⟨_,ag rfl (ag (hc.bR _) rfl),_,Lz hc p l hl hd,?_⟩;show some (D.bool _)=some (D.bool _);rw[<-eP p l 0 (Int.le_refl 0)]
theorem Sb{k:Nat}{cap:List D}(hc:Kp cap)(p:Tk->Bool)(l:List Tk)(hl:l.length<9223372036854775808)(hd:∀x∈l,DN k (.agg x.enc::cap) (.bool (p x))):DN 320 [.list 2 (l.map Tk.enc),.bR (.func k) [] cap] (.int .i64 (aY p l 0)):=by
 refine dX Tryz.func320 Tryz.call320 rfl rfl ?_;have hlen:=bD Tk.enc l;refine⟨[0,1,7,8],0,[],λU=>∃i:Nat,i<=l.length/\aY p l 0=aY p (l.drop i) i/\U=⟨[(0,.list 2 (l.map Tk.enc)),(1,.bR (.func k) [] cap),(7,.int .i64 (l.map Tk.enc).length),(8,.int .i64 i)],[],.aQ⟩,λU=>((l.length:Int)-aZ 8 U).toNat,rfl,⟨hc.tm,rfl⟩,⟨0,Nat.zero_le _,rfl,rfl⟩,?_⟩;rintro U⟨i,bC,hf,rfl⟩;refine⟨λh1=>?_,λh1=>?_⟩
 .have h1:=of_decide_eq_true h1
  rw[hlen]at h1;have bC:i<l.length:=by omega
  have aI:=aV (e:=Tk.enc) (List.getElem?_eq_getElem bC);have ea:l.drop i=l[i]::l.drop (i+1):=List.drop_eq_getElem_cons bC;rw[ea,aY]at hf;refine⟨by omega,_,aI,?_⟩;refine⟨_,ag rfl (hc.r8 _),_,hd l[i] (List.getElem_mem bC),?_⟩;refine⟨λh2=>?_,λh2=>?_⟩
  .rw[h2]at hf
   show some (D.int .i64 (i:Int))=some (D.int .i64 (aY p l 0));rw[hf]
  rw[h2]at hf;refine⟨_,wrap64 (by omega) (by omega),?_⟩;refine⟨⟨hc.tm,rfl⟩,⟨i+1,bC,hf,rfl⟩,?_⟩;show((l.length:Int)-((i:Int)+1)).toNat<((l.length:Int)-(i:Int)).toNat;omega
 have h1:=of_decide_eq_false h1;rw[hlen]at h1;show some (D.int .i64 (-1))=some (D.int .i64 (aY p l 0));rw[hf,List.drop_of_length_le (by omega)];rfl
theorem Sc{k:Nat}{cap:List D}(hc:Kp cap)(p:Tk->Bool)(l:List Tk)(hl:l.length<9223372036854775808)(hd:∀x∈l,DN k (.agg x.enc::cap) (.bool (p x))):DN 272 [.list 2 (l.map Tk.enc),.bR (.func k) [] cap] (.bool (l.any p)):=by
 refine dX Tryz.func272 Tryz.call272 rfl rfl ?_;refine⟨_,ag rfl (ag (hc.bR _) rfl),_,Sb hc p l hl hd,?_⟩;show some (D.bool _)=some (D.bool _);rw[<-eP p l 0 (Int.le_refl 0)]
def kR(lo hi n:Int):Bool:=decide (n<lo)||decide (n>hi)
def cP(many n:Int):Bool:=decide (n<0)||decide (n>=many)
theorem E0{lo hi n:Int}(h:kR lo hi n=false):lo<=n/\n<=hi:=by
 unfold kR at h;rw[Bool.or_eq_false_iff,decide_eq_false_iff_not,decide_eq_false_iff_not]at h;omega
theorem Am{lo hi n:Int}(h0:lo<=n)(h1:n<=hi):kR lo hi n=false:=by
 unfold kR;rw[decide_eq_false (by omega),decide_eq_false (by omega)];rfl
theorem kJ{many n:Int}(h:cP many n=false):0<=n/\n<many:=by
 unfold cP at h;rw[Bool.or_eq_false_iff,decide_eq_false_iff_not,decide_eq_false_iff_not]at h;omega
theorem uI{many n:Int}(h0:0<=n)(h1:n<many):cP many n=false:=by
 unfold cP;rw[decide_eq_false (by omega),decide_eq_false (by omega)];rfl
theorem WU(lo hi n:Int):DN 88 [.int .i64 n,.ro [.int .i64 lo],.ro [.int .i64 hi]] (.bool (kR lo hi n)):=by
 refine dX Tryz.func88 Tryz.call88 rfl rfl ?_;refine⟨λh=>?_,λh=>?_⟩
 .show some (D.bool _)=some (D.bool _)
  simp[kR,h]
 show some (D.bool _)=some (D.bool _);simp[kR,h]
theorem LA(lo hi:Int)(l:List Int)(hl:l.length<9223372036854775808):DN 18 [.int .i64 lo,.int .i64 hi,.list 1 (l.map aC)] (.bool (l.any (kR lo hi))):=by
 refine dX Tryz.func18 Tryz.call18 rfl rfl ?_;exact⟨_,rfl,_,Cv ⟨λ_=>rfl,λ_=>rfl,λ_=>rfl⟩ _ l hl λx _=>WU lo hi x,rfl⟩
theorem Sd(lo hi n:Int):DN 202 [.int .i64 n,.ro [.int .i64 lo],.ro [.int .i64 hi]] (.bool (kR lo hi n)):=by
 refine dX Tryz.func202 Tryz.call202 rfl rfl ?_;refine⟨λh=>?_,λh=>?_⟩
 .show some (D.bool _)=some (D.bool _)
  simp[kR,h]
 show some (D.bool _)=some (D.bool _);simp[kR,h]
theorem LB(lo hi:Int)(l:List Int)(hl:l.length<9223372036854775808):DN 116 [.int .i64 lo,.int .i64 hi,.list 1 (l.map aC)] (.bool (l.any (kR lo hi))):=by
 refine dX Tryz.func116 Tryz.call116 rfl rfl ?_;exact⟨_,rfl,_,Cv ⟨λ_=>rfl,λ_=>rfl,λ_=>rfl⟩ _ l hl λx _=>Sd lo hi x,rfl⟩
theorem Se(many n:Int):DN 183 [.int .i64 n,.ro [.int .i64 many]] (.bool (cP many n)):=by
 refine dX Tryz.func183 Tryz.call183 rfl rfl ?_;refine⟨λh=>?_,λh=>?_⟩
 .show some (D.bool _)=some (D.bool _)
  simp[cP,h]
 show some (D.bool _)=some (D.bool _);simp[cP,h]
theorem WV(l:List Int)(many:Int)(hl:l.length<9223372036854775808):DN 98 [.int .i64 many,.list 1 (l.map aC)] (.bool (l.any (cP many))):=by
 refine dX Tryz.func98 Tryz.call98 rfl rfl ?_;exact⟨_,rfl,_,Cv ⟨λ_=>rfl,λ_=>rfl,λ_=>rfl⟩ _ l hl λx _=>Se many x,rfl⟩
theorem Sf(many n:Int):DN 228 [.int .i64 n,.ro [.int .i64 many]] (.bool (cP many n)):=by
 refine dX Tryz.func228 Tryz.call228 rfl rfl ?_;refine⟨λh=>?_,λh=>?_⟩
 .show some (D.bool _)=some (D.bool _)
  simp[cP,h]
 show some (D.bool _)=some (D.bool _);simp[cP,h]
theorem E1(l:List Int)(many:Int)(hl:l.length<9223372036854775808):DN 146 [.int .i64 many,.list 1 (l.map aC)] (.bool (l.any (cP many))):=by
 refine dX Tryz.func146 Tryz.call146 rfl rfl ?_;exact⟨_,rfl,_,Cv ⟨λ_=>rfl,λ_=>rfl,λ_=>rfl⟩ _ l hl λx _=>Sf many x,rfl⟩
end Go.Proofs.Ball
