/- The types of the program's code, told by abstract values; what a call may be; Numbers that are no index; lists that are looked through, with panics; What each does: it returns, or panics with the error of the first thing that has one; Sets of tanks, as bits; Nets, and nets that are looked at; the tanks that are joined; Whether no wanted tank is joined to a kept one; How gas spreads; A step; All steps that can be done; Whether more can flow through a pipe. No condition. -/
import Derived.Test.YtfdflbdnjimfaaaChecked
import Derived.Test.YtfdflbdnjimfaaaPackUI

namespace Go.Proofs
open Go.V

def Try.tl:List (Nat × TI):=[
 (1,⟨Go.TypeDesc.func #[] #[] false,false,1,8,[.nilf],false⟩),
 (3,⟨Go.TypeDesc.int (Go.IntKind.i64),false,1,8,[.int .i64 0],false⟩),
 (4,⟨Go.TypeDesc.bool,false,1,1,[.ff],false⟩),
 (5,⟨Go.TypeDesc.int (Go.IntKind.u8),false,1,1,[.int .u8 0],false⟩),
 (9,⟨Go.TypeDesc.string,false,1,16,[.str ⟨#[]⟩],false⟩),
 (21,⟨Go.TypeDesc.int (Go.IntKind.i32),false,1,4,[.int .i32 0],false⟩),
 (22,⟨Go.TypeDesc.slice 84,false,1,24,[.nils],false⟩),
 (23,⟨Go.TypeDesc.slice 79,false,1,24,[.nils],false⟩),
 (25, ⟨TypeDesc.struct #[⟨ "Tanks", 22, 0, false, "", "", 0⟩, ⟨ "Pipes", 23, 1, false, "", "", 24⟩], true, 2, 48, [.nils, .nils], false⟩),
 (26,⟨Go.TypeDesc.slice 3,false,1,24,[.nils],false⟩),
 (27,⟨Go.TypeDesc.slice 58,false,1,24,[.nils],false⟩),
 (28,⟨Go.TypeDesc.int (Go.IntKind.i64),false,1,8,[.int .i64 0],false⟩),
 (35, ⟨TypeDesc.struct #[⟨ "Free", 26, 0, false, "", "", 0⟩, ⟨ "Blowers", 26, 1, false, "", "", 24⟩], true, 2, 48, [.nils, .nils], false⟩),
 (42, ⟨TypeDesc.struct #[⟨ "Blanks", 26, 0, false, "", "", 0⟩, ⟨ "Wanted", 26, 1, false, "", "", 24⟩, ⟨ "Blowers", 3, 2, false, "", "", 48⟩], true, 3, 56, [.nils, .nils, .int .i64 0], false⟩),
 (43,⟨Go.TypeDesc.slice 26,false,1,24,[.nils],false⟩),
 (58, ⟨TypeDesc.struct #[⟨ "Tank", 3, 0, false, "", "", 0⟩, ⟨ "Off", 4, 1, false, "", "", 8⟩], true, 2, 16, [.int .i64 0, .ff], true⟩),
 (60,⟨Go.TypeDesc.int (Go.IntKind.u16),false,1,2,[.int .u16 0],false⟩),
 (67, ⟨TypeDesc.struct #[⟨ "Ways", 43, 0, false, "", "", 0⟩, ⟨ "Bits", 60, 1, false, "", "", 24⟩], true, 2, 32, [.nils, .int .u16 0], false⟩),
 (69,⟨Go.TypeDesc.slice 5,false,1,24,[.nils],false⟩),
 (75,⟨Go.TypeDesc.array 3 5,true,3,3,[.int .u8 0,.int .u8 0,.int .u8 0],false⟩),
 (76,⟨Go.TypeDesc.slice 4,false,1,24,[.nils],false⟩),
 (79, ⟨TypeDesc.struct #[⟨ "From", 3, 0, false, "", "", 0⟩, ⟨ "To", 3, 1, false, "", "", 8⟩, ⟨ "Welded", 4, 2, false, "", "", 16⟩], true, 3, 24, [.int .i64 0, .int .i64 0, .ff], false⟩),
 (82,⟨Go.TypeDesc.array 2 5,true,2,2,[.int .u8 0,.int .u8 0],false⟩),
 (84, ⟨TypeDesc.struct #[⟨ "Name", 9, 0, false, "", "", 0⟩, ⟨ "Kept", 4, 1, false, "", "", 16⟩], true, 2, 24, [.str ⟨#[]⟩, .ff], false⟩),
 (88,⟨Go.TypeDesc.func #[84] #[4] false,false,1,8,[.nilf],false⟩),
 (90,⟨Go.TypeDesc.slice 9,false,1,24,[.nils],false⟩),
 (93,⟨Go.TypeDesc.pointer 100,false,1,8,[.nilp],false⟩),
 (96,⟨Go.TypeDesc.int (Go.IntKind.u64),false,1,8,[.int .u64 0],false⟩),
 (97,⟨Go.TypeDesc.int (Go.IntKind.u64),false,1,8,[.int .u64 0],false⟩),
 (98,⟨Go.TypeDesc.array 12 4,true,12,12,[.ff,.ff,.ff,.ff,.ff,.ff,.ff,.ff,.ff,.ff,.ff,.ff],false⟩),
 (100, ⟨TypeDesc.struct #[⟨ "VnNet", 25, 0, true, "", "", 0⟩, ⟨ "kept", 97, 2, false, "", "orlop/vent", 48⟩, ⟨ "wanted", 97, 3, false, "", "orlop/vent", 56⟩, ⟨ "open", 98, 4, false, "", "orlop/vent", 64⟩], true, 16, 80, [.nils, .nils, .int .u64 0, .int .u64 0, .ff, .ff, .ff, .ff, .ff, .ff, .ff, .ff, .ff, .ff, .ff, .ff], false⟩),
 (105, ⟨TypeDesc.struct #[⟨ "free", 97, 0, false, "", "orlop/vent", 0⟩, ⟨ "blowers", 97, 1, false, "", "orlop/vent", 8⟩], true, 2, 16, [.int .u64 0, .int .u64 0], true⟩),
 (108,⟨Go.TypeDesc.array 7 4,true,7,7,[.ff,.ff,.ff,.ff,.ff,.ff,.ff],false⟩),
 (110, ⟨TypeDesc.struct #[⟨ "Free", 108, 0, false, "", "", 0⟩, ⟨ "Blowers", 108, 7, false, "", "", 7⟩], true, 14, 14, [.ff, .ff, .ff, .ff, .ff, .ff, .ff, .ff, .ff, .ff, .ff, .ff, .ff, .ff], false⟩),
 (115,⟨Go.TypeDesc.array 7 3,true,7,56,[.int .i64 0,.int .i64 0,.int .i64 0,.int .i64 0,.int .i64 0,.int .i64 0,.int .i64 0],false⟩),
 (116,⟨Go.TypeDesc.func #[3] #[4] false,false,1,8,[.nilf],false⟩),
 (117,⟨Go.TypeDesc.array 2 3,true,2,16,[.int .i64 0,.int .i64 0],false⟩),
 (118,⟨Go.TypeDesc.slice 117,false,1,24,[.nils],false⟩),
 (123,⟨Go.TypeDesc.pointer 128,false,1,8,[.nilp],false⟩),
 (126,⟨Go.TypeDesc.array 12 3,true,12,96,[.int .i64 0,.int .i64 0,.int .i64 0,.int .i64 0,.int .i64 0,.int .i64 0,.int .i64 0,.int .i64 0,.int .i64 0,.int .i64 0,.int .i64 0,.int .i64 0],false⟩),
 (128, ⟨TypeDesc.struct #[⟨ "net", 93, 0, true, "", "orlop/vent", 0⟩, ⟨ "now", 126, 1, false, "", "orlop/vent", 8⟩], true, 13, 104, [.nilp, .int .i64 0, .int .i64 0, .int .i64 0, .int .i64 0, .int .i64 0, .int .i64 0, .int .i64 0, .int .i64 0, .int .i64 0, .int .i64 0, .int .i64 0, .int .i64 0], false⟩),
 (129,⟨Go.TypeDesc.func #[] #[3] false,false,1,8,[.nilf],false⟩),
 (131,⟨Go.TypeDesc.map 3 3,false,1,8,[.nilm],false⟩),
 (146, ⟨TypeDesc.struct #[⟨ "from", 105, 0, false, "", "orlop/vent", 0⟩, ⟨ "step", 58, 2, false, "", "orlop/vent", 16⟩], true, 4, 32, [.int .u64 0, .int .u64 0, .int .i64 0, .ff], false⟩),
 (147,⟨Go.TypeDesc.map 105 146,false,1,8,[.nilm],false⟩),
 (148,⟨Go.TypeDesc.slice 105,false,1,24,[.nils],false⟩),
 (150,⟨Go.TypeDesc.func #[161] #[] false,false,1,8,[.nilf],false⟩),
 (151,⟨Go.TypeDesc.func #[161] #[] false,false,1,8,[.nilf],false⟩),
 (155,⟨Go.TypeDesc.slice 159,false,1,24,[.nils],false⟩),
 (159, ⟨TypeDesc.struct #[⟨ "s", 110, 0, false, "", "orlop/orlopref04", 0⟩, ⟨ "from", 3, 14, false, "", "orlop/orlopref04", 16⟩, ⟨ "step", 58, 15, false, "", "orlop/orlopref04", 24⟩], true, 17, 40, [.ff, .ff, .ff, .ff, .ff, .ff, .ff, .ff, .ff, .ff, .ff, .ff, .ff, .ff, .int .i64 0, .int .i64 0, .ff], false⟩),
 (161,⟨Go.TypeDesc.func #[58,105] #[4] false,false,1,8,[.nilf],false⟩),
 (163,⟨Go.TypeDesc.int (Go.IntKind.u32),false,1,4,[.int .u32 0],false⟩),
 (165,⟨Go.TypeDesc.int (Go.IntKind.u64),false,1,8,[.int .u64 0],false⟩)
]

def Try.tt:Nat→Option TI:=lookT Try.tl

theorem Try.tok:TOK Try.prog Try.tt :=
 (TOK.cons (TIok.of Try.underlying1 rfl (i:=Try.t1) (by kernel_rfl) rfl rfl rfl rfl rfl (by kernel_rfl) (by intro h;cases h))
 (TOK.cons (TIok.of Try.underlying3 rfl (i:=Try.t3) (by kernel_rfl) rfl rfl rfl rfl rfl (by kernel_rfl) (by intro h;cases h))
 (TOK.cons (TIok.of Try.underlying4 rfl (i:=Try.t4) (by kernel_rfl) rfl rfl rfl rfl rfl (by kernel_rfl) (by intro h;cases h))
 (TOK.cons (TIok.of Try.underlying5 rfl (i:=Try.t5) (by kernel_rfl) rfl rfl rfl rfl rfl (by kernel_rfl) (by intro h;cases h))
 (TOK.cons (TIok.of Try.underlying9 rfl (i:=Try.t9) (by kernel_rfl) rfl rfl rfl rfl rfl (by kernel_rfl) (by intro h;cases h))
 (TOK.cons (TIok.of Try.underlying21 rfl (i:=Try.t21) (by kernel_rfl) rfl rfl rfl rfl rfl (by kernel_rfl) (by intro h;cases h))
 (TOK.cons (TIok.of Try.underlying22 rfl (i:=Try.t22) (by kernel_rfl) rfl rfl rfl rfl rfl (by kernel_rfl) (by intro h;cases h))
 (TOK.cons (TIok.of Try.underlying23 rfl (i:=Try.t23) (by kernel_rfl) rfl rfl rfl rfl rfl (by kernel_rfl) (by intro h;cases h))
 (TOK.cons (TIok.of Try.underlying25 rfl (i:=Try.t25) (by kernel_rfl) rfl rfl rfl rfl rfl (by kernel_rfl) (by intro h;cases h))
 (TOK.cons (TIok.of Try.underlying26 rfl (i:=Try.t26) (by kernel_rfl) rfl rfl rfl rfl rfl (by kernel_rfl) (by intro h;cases h))
 (TOK.cons (TIok.of Try.underlying27 rfl (i:=Try.t27) (by kernel_rfl) rfl rfl rfl rfl rfl (by kernel_rfl) (by intro h;cases h))
 (TOK.cons (TIok.of Try.underlying28 rfl (i:=Try.t28) (by kernel_rfl) rfl rfl rfl rfl rfl (by kernel_rfl) (by intro h;cases h))
 (TOK.cons (TIok.of Try.underlying35 rfl (i:=Try.t35) (by kernel_rfl) rfl rfl rfl rfl rfl (by kernel_rfl) (by intro h;cases h))
 (TOK.cons (TIok.of Try.underlying42 rfl (i:=Try.t42) (by kernel_rfl) rfl rfl rfl rfl rfl (by kernel_rfl) (by intro h;cases h))
 (TOK.cons (TIok.of Try.underlying43 rfl (i:=Try.t43) (by kernel_rfl) rfl rfl rfl rfl rfl (by kernel_rfl) (by intro h;cases h))
 (TOK.cons (TIok.of Try.underlying58 rfl (i:=Try.t58) (by kernel_rfl) rfl rfl rfl rfl rfl (by kernel_rfl) (fun _=>eqs_struct Try.underlying58 Try.stoodInHeld58 Try.eqGuardType58 (by kernel_rfl) rfl))
 (TOK.cons (TIok.of Try.underlying60 rfl (i:=Try.t60) (by kernel_rfl) rfl rfl rfl rfl rfl (by kernel_rfl) (by intro h;cases h))
 (TOK.cons (TIok.of Try.underlying67 rfl (i:=Try.t67) (by kernel_rfl) rfl rfl rfl rfl rfl (by kernel_rfl) (by intro h;cases h))
 (TOK.cons (TIok.of Try.underlying69 rfl (i:=Try.t69) (by kernel_rfl) rfl rfl rfl rfl rfl (by kernel_rfl) (by intro h;cases h))
 (TOK.cons (TIok.of Try.underlying75 rfl (i:=Try.t75) (by kernel_rfl) rfl rfl rfl rfl rfl (by kernel_rfl) (by intro h;cases h))
 (TOK.cons (TIok.of Try.underlying76 rfl (i:=Try.t76) (by kernel_rfl) rfl rfl rfl rfl rfl (by kernel_rfl) (by intro h;cases h))
 (TOK.cons (TIok.of Try.underlying79 rfl (i:=Try.t79) (by kernel_rfl) rfl rfl rfl rfl rfl (by kernel_rfl) (by intro h;cases h))
 (TOK.cons (TIok.of Try.underlying82 rfl (i:=Try.t82) (by kernel_rfl) rfl rfl rfl rfl rfl (by kernel_rfl) (by intro h;cases h))
 (TOK.cons (TIok.of Try.underlying84 rfl (i:=Try.t84) (by kernel_rfl) rfl rfl rfl rfl rfl (by kernel_rfl) (by intro h;cases h))
 (TOK.cons (TIok.of Try.underlying88 rfl (i:=Try.t88) (by kernel_rfl) rfl rfl rfl rfl rfl (by kernel_rfl) (by intro h;cases h))
 (TOK.cons (TIok.of Try.underlying90 rfl (i:=Try.t90) (by kernel_rfl) rfl rfl rfl rfl rfl (by kernel_rfl) (by intro h;cases h))
 (TOK.cons (TIok.of Try.underlying93 rfl (i:=Try.t93) (by kernel_rfl) rfl rfl rfl rfl rfl (by kernel_rfl) (by intro h;cases h))
 (TOK.cons (TIok.of Try.underlying96 rfl (i:=Try.t96) (by kernel_rfl) rfl rfl rfl rfl rfl (by kernel_rfl) (by intro h;cases h))
 (TOK.cons (TIok.of Try.underlying97 rfl (i:=Try.t97) (by kernel_rfl) rfl rfl rfl rfl rfl (by kernel_rfl) (by intro h;cases h))
 (TOK.cons (TIok.of Try.underlying98 rfl (i:=Try.t98) (by kernel_rfl) rfl rfl rfl rfl rfl (by kernel_rfl) (by intro h;cases h))
 (TOK.cons (TIok.of Try.underlying100 rfl (i:=Try.t100) (by kernel_rfl) rfl rfl rfl rfl rfl (by kernel_rfl) (by intro h;cases h))
 (TOK.cons (TIok.of Try.underlying105 rfl (i:=Try.t105) (by kernel_rfl) rfl rfl rfl rfl rfl (by kernel_rfl) (fun _=>eqs_struct Try.underlying105 Try.stoodInHeld105 Try.eqGuardType105 (by kernel_rfl) rfl))
 (TOK.cons (TIok.of Try.underlying108 rfl (i:=Try.t108) (by kernel_rfl) rfl rfl rfl rfl rfl (by kernel_rfl) (by intro h;cases h))
 (TOK.cons (TIok.of Try.underlying110 rfl (i:=Try.t110) (by kernel_rfl) rfl rfl rfl rfl rfl (by kernel_rfl) (by intro h;cases h))
 (TOK.cons (TIok.of Try.underlying115 rfl (i:=Try.t115) (by kernel_rfl) rfl rfl rfl rfl rfl (by kernel_rfl) (by intro h;cases h))
 (TOK.cons (TIok.of Try.underlying116 rfl (i:=Try.t116) (by kernel_rfl) rfl rfl rfl rfl rfl (by kernel_rfl) (by intro h;cases h))
 (TOK.cons (TIok.of Try.underlying117 rfl (i:=Try.t117) (by kernel_rfl) rfl rfl rfl rfl rfl (by kernel_rfl) (by intro h;cases h))
 (TOK.cons (TIok.of Try.underlying118 rfl (i:=Try.t118) (by kernel_rfl) rfl rfl rfl rfl rfl (by kernel_rfl) (by intro h;cases h))
 (TOK.cons (TIok.of Try.underlying123 rfl (i:=Try.t123) (by kernel_rfl) rfl rfl rfl rfl rfl (by kernel_rfl) (by intro h;cases h))
 (TOK.cons (TIok.of Try.underlying126 rfl (i:=Try.t126) (by kernel_rfl) rfl rfl rfl rfl rfl (by kernel_rfl) (by intro h;cases h))
 (TOK.cons (TIok.of Try.underlying128 rfl (i:=Try.t128) (by kernel_rfl) rfl rfl rfl rfl rfl (by kernel_rfl) (by intro h;cases h))
 (TOK.cons (TIok.of Try.underlying129 rfl (i:=Try.t129) (by kernel_rfl) rfl rfl rfl rfl rfl (by kernel_rfl) (by intro h;cases h))
 (TOK.cons (TIok.of Try.underlying131 rfl (i:=Try.t131) (by kernel_rfl) rfl rfl rfl rfl rfl (by kernel_rfl) (by intro h;cases h))
 (TOK.cons (TIok.of Try.underlying146 rfl (i:=Try.t146) (by kernel_rfl) rfl rfl rfl rfl rfl (by kernel_rfl) (by intro h;cases h))
 (TOK.cons (TIok.of Try.underlying147 rfl (i:=Try.t147) (by kernel_rfl) rfl rfl rfl rfl rfl (by kernel_rfl) (by intro h;cases h))
 (TOK.cons (TIok.of Try.underlying148 rfl (i:=Try.t148) (by kernel_rfl) rfl rfl rfl rfl rfl (by kernel_rfl) (by intro h;cases h))
 (TOK.cons (TIok.of Try.underlying150 rfl (i:=Try.t150) (by kernel_rfl) rfl rfl rfl rfl rfl (by kernel_rfl) (by intro h;cases h))
 (TOK.cons (TIok.of Try.underlying151 rfl (i:=Try.t151) (by kernel_rfl) rfl rfl rfl rfl rfl (by kernel_rfl) (by intro h;cases h))
 (TOK.cons (TIok.of Try.underlying155 rfl (i:=Try.t155) (by kernel_rfl) rfl rfl rfl rfl rfl (by kernel_rfl) (by intro h;cases h))
 (TOK.cons (TIok.of Try.underlying159 rfl (i:=Try.t159) (by kernel_rfl) rfl rfl rfl rfl rfl (by kernel_rfl) (by intro h;cases h))
 (TOK.cons (TIok.of Try.underlying161 rfl (i:=Try.t161) (by kernel_rfl) rfl rfl rfl rfl rfl (by kernel_rfl) (by intro h;cases h))
 (TOK.cons (TIok.of Try.underlying163 rfl (i:=Try.t163) (by kernel_rfl) rfl rfl rfl rfl rfl (by kernel_rfl) (by intro h;cases h))
 (TOK.cons (TIok.of Try.underlying165 rfl (i:=Try.t165) (by kernel_rfl) rfl rfl rfl rfl rfl (by kernel_rfl) (by intro h;cases h))
 TOK.nil)))))))))))))))))))))))))))))))))))))))))))))))))))))

theorem Try.mixed:Try.prog.follows .mixedOrders=true:=by kernel_rfl

end Go.Proofs
namespace Go.Proofs.Vent
open Go.V Go.Proofs

instance glb:Glb:=⟨fun _ _=>none⟩
abbrev DN:=Den Try.prog
abbrev DP:=DenP Try.prog
abbrev IT:=IterDen Try.prog
abbrev shV:Kinds:=⟨fun k=>or (Nat.beq k 71) (or (Nat.beq k 73) (or (Nat.beq k 74) (or (Nat.beq k 85) (or (Nat.beq k 92) (or (Nat.beq k 94) (or (Nat.beq k 95) (Nat.beq k 101))))))),fun k=>Nat.beq k 85⟩
abbrev ishV:Nat→Bool:=fun _=>false

theorem mk {f:FuncId} {fn:Func} (hf:Try.prog.funcs[f]?=some fn) (he:Enters Try.prog f) (hb:bodyOK fn=true) {args:List D} {d:D} (hn:Nat.ble args.length fn.ntmps=true) (h:Body Try.tt (CD Try.prog shV) (ItD Try.prog ishV) fn args d):DN f args d :=
 den_of Try.tok Try.mixed hf he hb hn h

theorem mkW {f:FuncId} {fn:Func} (hf:Try.prog.funcs[f]?=some fn) (he:Enters Try.prog f) (hb:bodyOK fn=true) {args:List D} {d:D} (hn:Nat.ble args.length fn.ntmps=true) (h:BodyW Try.tt (CD Try.prog shV) (ItD Try.prog ishV) fn args d):DN f args d :=
 den_ofW Try.tok Try.mixed hf he hb hn h

theorem mkP {f:FuncId} {fn:Func} (hf:Try.prog.funcs[f]?=some fn) (he:Enters Try.prog f) (hb:bodyOK fn=true) {args:List D} {o:Option Value} (hn:Nat.ble args.length fn.ntmps=true) (h:BodyP Try.tt (CD Try.prog shV) (ItD Try.prog ishV) fn args o):DP f args o :=
 denP_of Try.tok Try.mixed hf he hb hn h

theorem mkY {f:FuncId} {fn:Func} (hf:Try.prog.funcs[f]?=some fn) (he:Enters Try.prog f) (hb:bodyOK fn=true) {args:List D} {bs:List Box} {y:Yst} {Q:D→List Box→Yst→Prop} (hn:Nat.ble args.length fn.ntmps=true) (h:BodyY Try.tt (CD Try.prog shV) (ItD Try.prog ishV) fn args bs y Q):DenY Try.prog f args bs y Q :=
 denY_of Try.tok Try.mixed hf he hb hn h

end Go.Proofs.Vent

namespace Go.Proofs.Vent
open Go.V Go.Proofs

def encI (n:Int):List D:=[.int .i64 n]
theorem encI_get {l:List Int} {i:Nat} (h:i<l.length):(l.map encI)[((i:Int)).toNat]?=some [.int .i64 l[i]]:=by simp [h,encI]
theorem encI_len (l:List Int):(l.map encI).length=l.length:=List.length_map ..

def findI {α:Type} (p:α→Bool):List α→Int→Int
 | [],_=>-1
 | b::r,i=>match p b with | true=>i | false=>findI p r (i+1)

theorem findI_any {α:Type} (p:α→Bool):∀ (bs:List α) (i:Int),0≤i→(decide (findI p bs i ≥ 0))=bs.any p
 | [],i,_=>rfl
 | b::r,i,hi=>by
  cases hb:p b with
  | true=>simp [findI,hb,hi]
  | false =>
   have:=findI_any p r (i+1) (by omega)
   simp only [findI,hb,List.any_cons,Bool.false_or]
   exact this


def offB (many n:Int):Bool:=decide (n<0) || decide (n ≥ many)

theorem den81 (many n:Int):DN 81 [.int .i64 n,.ro [.int .i64 many]] (.bool (offB many n)):=by
 refine mk Try.func81 Try.call81 rfl rfl ?_
 refine ⟨fun h=>?_,fun h=>?_⟩
 ·show some (D.bool _)=some (D.bool _)
  simp [offB,h]
 ·show some (D.bool _)=some (D.bool _)
  simp [offB,h]

theorem den94 (bs:List Int) (many:Int) (hl:bs.length<1000):DN 94 [.list 1 (bs.map encI),.clo (.func 81) [] [.ro [.int .i64 many]]] (.int .i64 (findI (offB many) bs 0)):=by
 refine mk Try.func94 Try.call94 rfl rfl ?_
 refine ⟨[0,1,7,8],0,[],fun σ=>∃ i:Nat,i≤bs.length∧findI (offB many) bs 0=findI (offB many) (bs.drop i) i∧σ=⟨[(0,.list 1 (bs.map encI)),(1,.clo (.func 81) [] [.ro [.int .i64 many]]),(7,.int .i64 (bs.map encI).length),(8,.int .i64 i)],[],.non⟩,fun σ=>(1000 - slotI 8 σ).toNat,rfl,⟨rfl,rfl⟩,⟨0,Nat.zero_le _,rfl,rfl⟩,?_⟩
 rintro σ ⟨i,hi',hf,rfl⟩
 refine ⟨fun h1=>?_,fun h1=>?_⟩
 ·have h1:=of_decide_eq_true h1
  rw [List.length_map] at h1
  have hi':i<bs.length:=by omega
  have hrow:(bs.map encI)[((i:Int)).toNat]?=some (encI bs[i]):=by simp [hi']
  have hdrop:bs.drop i=bs[i]::bs.drop (i+1):=List.drop_eq_getElem_cons hi'
  refine ⟨by omega,_,hrow,?_⟩
  refine ⟨_,rfl,_,den81 many bs[i],?_⟩
  refine ⟨fun h2=>?_,fun h2=>?_⟩
  ·show some (D.int .i64 (i:Int))=some (D.int .i64 (findI (offB many) bs 0))
   rw [hf,hdrop,findI,h2]
  ·refine ⟨_,wrap64 (by omega) (by omega),?_⟩
   refine ⟨⟨rfl,rfl⟩,⟨i+1,hi',?_,rfl⟩,?_⟩
   ·rw [hf,hdrop,findI,h2];rfl
   ·show (1000 - ((i:Int)+1)).toNat<(1000 - (i:Int)).toNat
    omega
 ·have h1:=of_decide_eq_false h1
  rw [List.length_map] at h1
  show some (D.int .i64 (-1))=some (D.int .i64 (findI (offB many) bs 0))
  rw [hf,List.drop_of_length_le (by omega)]
  rfl

theorem den74 (bs:List Int) (many:Int) (hl:bs.length<1000):DN 74 [.list 1 (bs.map encI),.clo (.func 81) [] [.ro [.int .i64 many]]] (.bool (bs.any (offB many))):=by
 refine mk Try.func74 Try.call74 rfl rfl ?_
 refine .inl ⟨_,rfl,_,den94 bs many hl,?_⟩
 show some (D.bool _)=some (D.bool _)
 rw [← findI_any (offB many) bs 0 (Int.le_refl 0)]

theorem den52 (bs:List Int) (many:Int) (hl:bs.length<1000):DN 52 [.int .i64 many,.list 1 (bs.map encI)] (.bool (bs.any (offB many))):=by
 refine mk Try.func52 Try.call52 rfl rfl ?_
 exact .inl ⟨_,rfl,_,den74 bs many hl,rfl⟩

end Go.Proofs.Vent

namespace Go.Proofs.Vent
open Go.V Go.Proofs

def dAt (l:List Int) (i:Nat):Int:=match l[i]? with | some v=>v | none=>0
theorem dAt_get {l:List Int} {i:Nat} (h:i<l.length):dAt l i=l[i]:=by unfold dAt;rw [List.getElem?_eq_getElem h]

def eachF (p:Int→Bool) (many:Int) (l:List Int):Nat→Nat→Option Int
 | 0,_=>none
 | r+1,k=>if offB many (dAt l k)=true then some 4 else if 0<k∧dAt l k≤dAt l (k - 1) then some 2 else if p (dAt l k)=true then some 9 else eachF p many l r (k+1)

def errV (o:Option Int):Option Value:=o.map fun n=>.iface 28 (.int .i64 n)

set_option maxHeartbeats 1000000 in
theorem denP85a {cap:List D} (p:Int→Bool) (l:List Int) (many:Int) (hd:∀ i,0≤i→i<many→DN 86 [.int .i64 i,.ro cap] (.bool (p i))) (hl:l.length<9223372036854775808) :
    DP 85 [.list 1 (l.map encI),.int .i64 many,.clo (.func 86) [] [.ro cap]] (errV (eachF p many l l.length 0)):=by
  refine mkP Try.func85 Try.call85 rfl rfl ?_
  have hlen:((l.map encI).length:Int)=l.length:=by simp
  refine ⟨[0,1,2,8,9,10],0,[],fun σ=>∃ k:Nat,k≤l.length∧eachF p many l l.length 0=eachF p many l (l.length - k) k ∧
   σ=⟨[(0,.list 1 (l.map encI)),(1,.int .i64 many),(2,.clo (.func 86) [] [.ro cap]),(8,.list 1 (l.map encI)),(9,.int .i64 (l.map encI).length),(10,.int .i64 k)],[],.non⟩,
   fun σ=>((l.length:Int) - slotI 10 σ).toNat,rfl,⟨rfl,rfl⟩,⟨0,Nat.zero_le _,rfl,rfl⟩,?_⟩
  rintro σ ⟨k,hk,hf,rfl⟩
  refine ⟨fun h1=>?_,fun h1=>?_⟩
  ·have h1:=of_decide_eq_true h1
   rw [hlen] at h1
   have hk':k<l.length:=by omega
   have hrow:=encI_get hk'
   rw [← dAt_get hk'] at hrow
   have hstep:eachF p many l (l.length - k) k=if offB many (dAt l k)=true then some 4 else if 0<k∧dAt l k≤dAt l (k - 1) then some 2 else if p (dAt l k)=true then some 9 else eachF p many l (l.length - (k+1)) (k+1):=by
    rw [show l.length - k=(l.length - (k+1))+1 by omega];rfl
   rw [hstep] at hf
   refine ⟨by omega,_,hrow,?_⟩
   have h52:=den52 [dAt l k] many (by simp)
   have hany:[dAt l k].any (offB many)=offB many (dAt l k):=by simp
   rw [hany] at h52
   have less:((l.length:Int) - ((k:Int)+1)).toNat<((l.length:Int) - (k:Int)).toNat:=by omega
   refine ⟨_,rfl,_,h52,?_⟩
   refine ⟨fun h2=>?_,fun h2=>?_⟩
   ·rw [if_pos h2] at hf
    refine ⟨rfl,⟨_,_,rfl,rfl⟩,?_⟩
    show errV _=some _
    rw [hf];rfl
   have h2:offB many (dAt l k)=false:=h2
   rw [if_neg (by rw [h2];decide)] at hf
   have hin:0≤dAt l k∧dAt l k<many:=by
    unfold offB at h2
    rw [Bool.or_eq_false_iff,decide_eq_false_iff_not,decide_eq_false_iff_not] at h2
    omega
   have last:¬ (0<k∧dAt l k≤dAt l (k - 1))→(DN 86 [.int .i64 (dAt l k),.ro cap] (.bool (p (dAt l k)))∧eachF p many l l.length 0=if p (dAt l k)=true then some 9 else eachF p many l (l.length - (k+1)) (k+1)):=fun h=>by
    rw [if_neg h] at hf
    exact ⟨hd _ hin.1 hin.2,hf⟩
   refine ⟨fun h3=>?_,fun h3=>?_⟩
   ·have h3:(k:Int) > 0:=of_decide_eq_true h3
    have hrow':=encI_get (l:=l) (i:=k - 1) (by omega)
    rw [← dAt_get (by omega)] at hrow'
    refine ⟨(k:Int) - 1,wrap64 (by omega) (by omega),?_⟩
    have ek:((k:Int) - 1)=((k - 1:Nat):Int):=by omega
    rw [← ek] at hrow'
    refine ⟨by omega,_,hrow',?_⟩
    refine ⟨fun h4=>?_,fun h4=>?_⟩
    ·have h4:dAt l k≤dAt l (k - 1):=of_decide_eq_true h4
     rw [if_pos ⟨by omega,h4⟩] at hf
     refine ⟨rfl,⟨_,_,rfl,rfl⟩,?_⟩
     show errV _=some _
     rw [hf];rfl
    ·have h4:¬ dAt l k≤dAt l (k - 1):=of_decide_eq_false h4
     obtain ⟨hp,hf⟩:=last (fun h=>h4 h.2)
     refine ⟨_,rfl,_,hp,?_⟩
     refine ⟨fun h5=>?_,fun h5=>?_⟩
     ·rw [if_pos h5] at hf
      refine ⟨rfl,⟨_,_,rfl,rfl⟩,?_⟩
      show errV _=some _
      rw [hf];rfl
     ·rw [if_neg (by rw [h5];decide)] at hf
      refine ⟨(k:Int)+1,wrap64 (by omega) (by omega),?_⟩
      exact ⟨⟨rfl,rfl⟩,⟨k+1,hk',hf,rfl⟩,less⟩
   ·have h3:¬ (k:Int) > 0:=of_decide_eq_false h3
    obtain ⟨hp,hf⟩:=last (fun h=>by omega)
    refine ⟨_,rfl,_,hp,?_⟩
    refine ⟨fun h5=>?_,fun h5=>?_⟩
    ·rw [if_pos h5] at hf
     refine ⟨rfl,⟨_,_,rfl,rfl⟩,?_⟩
     show errV _=some _
     rw [hf];rfl
    ·rw [if_neg (by rw [h5];decide)] at hf
     refine ⟨(k:Int)+1,wrap64 (by omega) (by omega),?_⟩
     exact ⟨⟨rfl,rfl⟩,⟨k+1,hk',hf,rfl⟩,less⟩
  ·have h1:=of_decide_eq_false h1
   rw [hlen] at h1
   have e:l.length - k=0:=by omega
   rw [e] at hf
   refine ⟨?_,rfl⟩
   rw [hf];rfl

set_option maxHeartbeats 1000000 in
theorem denP85b {cap:List D} (p:Int→Bool) (l:List Int) (many:Int) (hd:∀ i,0≤i→i<many→DN 87 [.int .i64 i,.ro cap] (.bool (p i))) (hl:l.length<9223372036854775808) :
    DP 85 [.list 1 (l.map encI),.int .i64 many,.clo (.func 87) [] [.ro cap]] (errV (eachF p many l l.length 0)):=by
  refine mkP Try.func85 Try.call85 rfl rfl ?_
  have hlen:((l.map encI).length:Int)=l.length:=by simp
  refine ⟨[0,1,2,8,9,10],0,[],fun σ=>∃ k:Nat,k≤l.length∧eachF p many l l.length 0=eachF p many l (l.length - k) k ∧
   σ=⟨[(0,.list 1 (l.map encI)),(1,.int .i64 many),(2,.clo (.func 87) [] [.ro cap]),(8,.list 1 (l.map encI)),(9,.int .i64 (l.map encI).length),(10,.int .i64 k)],[],.non⟩,
   fun σ=>((l.length:Int) - slotI 10 σ).toNat,rfl,⟨rfl,rfl⟩,⟨0,Nat.zero_le _,rfl,rfl⟩,?_⟩
  rintro σ ⟨k,hk,hf,rfl⟩
  refine ⟨fun h1=>?_,fun h1=>?_⟩
  ·have h1:=of_decide_eq_true h1
   rw [hlen] at h1
   have hk':k<l.length:=by omega
   have hrow:=encI_get hk'
   rw [← dAt_get hk'] at hrow
   have hstep:eachF p many l (l.length - k) k=if offB many (dAt l k)=true then some 4 else if 0<k∧dAt l k≤dAt l (k - 1) then some 2 else if p (dAt l k)=true then some 9 else eachF p many l (l.length - (k+1)) (k+1):=by
    rw [show l.length - k=(l.length - (k+1))+1 by omega];rfl
   rw [hstep] at hf
   refine ⟨by omega,_,hrow,?_⟩
   have h52:=den52 [dAt l k] many (by simp)
   have hany:[dAt l k].any (offB many)=offB many (dAt l k):=by simp
   rw [hany] at h52
   have less:((l.length:Int) - ((k:Int)+1)).toNat<((l.length:Int) - (k:Int)).toNat:=by omega
   refine ⟨_,rfl,_,h52,?_⟩
   refine ⟨fun h2=>?_,fun h2=>?_⟩
   ·rw [if_pos h2] at hf
    refine ⟨rfl,⟨_,_,rfl,rfl⟩,?_⟩
    show errV _=some _
    rw [hf];rfl
   have h2:offB many (dAt l k)=false:=h2
   rw [if_neg (by rw [h2];decide)] at hf
   have hin:0≤dAt l k∧dAt l k<many:=by
    unfold offB at h2
    rw [Bool.or_eq_false_iff,decide_eq_false_iff_not,decide_eq_false_iff_not] at h2
    omega
   have last:¬ (0<k∧dAt l k≤dAt l (k - 1))→(DN 87 [.int .i64 (dAt l k),.ro cap] (.bool (p (dAt l k)))∧eachF p many l l.length 0=if p (dAt l k)=true then some 9 else eachF p many l (l.length - (k+1)) (k+1)):=fun h=>by
    rw [if_neg h] at hf
    exact ⟨hd _ hin.1 hin.2,hf⟩
   refine ⟨fun h3=>?_,fun h3=>?_⟩
   ·have h3:(k:Int) > 0:=of_decide_eq_true h3
    have hrow':=encI_get (l:=l) (i:=k - 1) (by omega)
    rw [← dAt_get (by omega)] at hrow'
    refine ⟨(k:Int) - 1,wrap64 (by omega) (by omega),?_⟩
    have ek:((k:Int) - 1)=((k - 1:Nat):Int):=by omega
    rw [← ek] at hrow'
    refine ⟨by omega,_,hrow',?_⟩
    refine ⟨fun h4=>?_,fun h4=>?_⟩
    ·have h4:dAt l k≤dAt l (k - 1):=of_decide_eq_true h4
     rw [if_pos ⟨by omega,h4⟩] at hf
     refine ⟨rfl,⟨_,_,rfl,rfl⟩,?_⟩
     show errV _=some _
     rw [hf];rfl
    ·have h4:¬ dAt l k≤dAt l (k - 1):=of_decide_eq_false h4
     obtain ⟨hp,hf⟩:=last (fun h=>h4 h.2)
     refine ⟨_,rfl,_,hp,?_⟩
     refine ⟨fun h5=>?_,fun h5=>?_⟩
     ·rw [if_pos h5] at hf
      refine ⟨rfl,⟨_,_,rfl,rfl⟩,?_⟩
      show errV _=some _
      rw [hf];rfl
     ·rw [if_neg (by rw [h5];decide)] at hf
      refine ⟨(k:Int)+1,wrap64 (by omega) (by omega),?_⟩
      exact ⟨⟨rfl,rfl⟩,⟨k+1,hk',hf,rfl⟩,less⟩
   ·have h3:¬ (k:Int) > 0:=of_decide_eq_false h3
    obtain ⟨hp,hf⟩:=last (fun h=>by omega)
    refine ⟨_,rfl,_,hp,?_⟩
    refine ⟨fun h5=>?_,fun h5=>?_⟩
    ·rw [if_pos h5] at hf
     refine ⟨rfl,⟨_,_,rfl,rfl⟩,?_⟩
     show errV _=some _
     rw [hf];rfl
    ·rw [if_neg (by rw [h5];decide)] at hf
     refine ⟨(k:Int)+1,wrap64 (by omega) (by omega),?_⟩
     exact ⟨⟨rfl,rfl⟩,⟨k+1,hk',hf,rfl⟩,less⟩
  ·have h1:=of_decide_eq_false h1
   rw [hlen] at h1
   have e:l.length - k=0:=by omega
   rw [e] at hf
   refine ⟨?_,rfl⟩
   rw [hf];rfl

end Go.Proofs.Vent

namespace Go.Proofs.Vent
open Go.V Go.Proofs

theorem wrapU {n:Int} (h0:0≤n) (h1:n<18446744073709551616):IntKind.u64.wrap n=n:=by
 show (n % 18446744073709551616:Int)=n
 exact Int.emod_eq_of_lt h0 h1

theorem bv_nat {a:Nat} (ha:a<2^62):(BitVec.ofInt 64 (a:Int)).toNat=a:=by
 rw [BitVec.ofInt_natCast,BitVec.toNat_ofNat]
 exact Nat.mod_eq_of_lt (by omega)
theorem bits_and {a b:Nat} (ha:a<2^62) (hb:b<2^62):bits .and .u64 a b=((a &&& b:Nat):Int):=by
 have h1:a &&& b≤a:=Nat.and_le_left
 show IntKind.u64.wrap (((BitVec.ofInt 64 (a:Int) &&& BitVec.ofInt 64 (b:Int)).toNat:Nat):Int)=_
 rw [BitVec.toNat_and,bv_nat ha,bv_nat hb]
 exact wrapU (by omega) (by omega)
theorem or_lt {a b n:Nat} (ha:a<2^n) (hb:b<2^n):a ||| b<2^n:=Nat.or_lt_two_pow ha hb
theorem bits_or {a b:Nat} (ha:a<2^62) (hb:b<2^62):bits .or .u64 a b=((a ||| b:Nat):Int):=by
 have h1:=or_lt ha hb
 show IntKind.u64.wrap (((BitVec.ofInt 64 (a:Int) ||| BitVec.ofInt 64 (b:Int)).toNat:Nat):Int)=_
 rw [BitVec.toNat_or,bv_nat ha,bv_nat hb]
 exact wrapU (by omega) (by omega)
def diff (a b:Nat):Nat:=a ^^^ (a &&& b)
theorem diff_bit (a b i:Nat):(diff a b).testBit i=(a.testBit i && !(b.testBit i)):=by
 unfold diff
 rw [Nat.testBit_xor,Nat.testBit_and]
 cases a.testBit i <;> cases b.testBit i <;> rfl
theorem diff_lt {a b n:Nat} (ha:a<2^n):diff a b<2^n:=by
 unfold diff
 exact Nat.xor_lt_two_pow ha (Nat.lt_of_le_of_lt Nat.and_le_left ha)
theorem bits_andNot {a b:Nat} (ha:a<2^62) (hb:b<2^62):bits .andNot .u64 a b=((diff a b:Nat):Int):=by
 have h2:(BitVec.ofInt 64 (a:Int) &&& ~~~(BitVec.ofInt 64 (b:Int))).toNat=diff a b:=by
  apply Nat.eq_of_testBit_eq
  intro i
  rw [diff_bit,BitVec.toNat_and,Nat.testBit_and,bv_nat ha]
  rcases Nat.lt_or_ge i 64 with hi | hi
  ·congr 1
   rw [BitVec.testBit_toNat,BitVec.getLsbD_not,← BitVec.testBit_toNat,bv_nat hb]
   simp [hi]
  ·have h3:a.testBit i=false:=Nat.testBit_lt_two_pow (Nat.lt_of_lt_of_le ha (Nat.pow_le_pow_right (by decide) (by omega)))
   simp [h3]
 have h1:diff a b<2^62:=diff_lt ha
 show IntKind.u64.wrap (((BitVec.ofInt 64 (a:Int) &&& ~~~(BitVec.ofInt 64 (b:Int))).toNat:Nat):Int)=_
 rw [h2]
 exact wrapU (by omega) (by omega)

def setOf:Nat→(Nat→Bool)→Nat
 | 0,_=>0
 | n+1,p=>setOf n p+if p n then 2^n else 0
theorem setOf_lt (p:Nat→Bool):∀ n,setOf n p<2^n
 | 0=>Nat.zero_lt_one
 | n+1=>by
  have:=setOf_lt p n
  have h2:2^(n+1)=2^n+2^n:=by rw [Nat.pow_succ];omega
  unfold setOf
  split <;> omega
theorem setOf_bit (p:Nat→Bool):∀ n i,(setOf n p).testBit i=(decide (i<n) && p i)
 | 0,i=>by simp [setOf]
 | n+1,i=>by
  have hlt:=setOf_lt p n
  have ih:=setOf_bit p n i
  unfold setOf
  cases hp:p n with
  | false =>
   simp only [Bool.false_eq_true,if_false,Nat.add_zero,ih]
   by_cases h:i=n
   ·subst h;simp [hp]
   ·have:decide (i<n+1)=decide (i<n):=by apply Bool.eq_iff_iff.2;simp;omega
    rw [this]
  | true =>
   simp only [if_true]
   have e:setOf n p+2^n=2^n*1+setOf n p:=by omega
   rw [e,Nat.testBit_two_pow_mul_add _ hlt]
   by_cases h:i<n
   ·rw [if_pos h,ih]
    have h2:i<n+1:=by omega
    simp [h,h2]
   ·rw [if_neg h]
    by_cases h2:i=n
    ·subst h2;simp [hp]
    · have h3:Nat.testBit 1 (i - n)=false:=by
        cases h4:Nat.testBit 1 (i - n) with
        | false=>rfl
        | true=>have:=Nat.testBit_one_eq_true_iff_self_eq_zero.1 h4;omega
      have h5:¬ i<n+1:=by omega
      rw [h3];simp [h5]
theorem pow_bit {n m:Nat}:(2^n).testBit m=decide (m=n):=by
 rw [Nat.testBit_two_pow]
 apply Bool.eq_iff_iff.2;simp;exact eq_comm

theorem shl1 (i:Nat) (h:i≤60):IntKind.u64.wrap (1*2^(min (i:Int).toNat IntKind.u64.bits))=((2^i:Nat):Int):=by
 have h1:min (i:Int).toNat IntKind.u64.bits=i:=by show min i 64=i;omega
 have h2:2^i<2^61:=Nat.pow_lt_pow_right (by decide) (by omega)
 have h3:(1:Int)*2^i=((2^i:Nat):Int):=by rw [Int.one_mul];exact (Int.natCast_pow 2 i).symm
 rw [h1,h3]
 have h4:∀ q:Nat,q<2^61→IntKind.u64.wrap (q:Int)=q:=fun q hq=>wrapU (by omega) (by omega)
 exact h4 _ h2
theorem pow_lt62 {i:Nat} (h:i≤60):2^i<2^62:=Nat.pow_lt_pow_right (by decide) (by omega)
theorem setOf_lt62 {n:Nat} (p:Nat→Bool) (h:n≤60):setOf n p<2^62 :=
 Nat.lt_of_lt_of_le (setOf_lt p n) (Nat.pow_le_pow_right (by decide) (by omega))
theorem setOf_or {n:Nat} {p:Nat→Bool} (h:p n=true):setOf n p ||| 2^n=setOf (n+1) p:=by
 apply Nat.eq_of_testBit_eq
 intro i
 rw [Nat.testBit_or,setOf_bit,setOf_bit,pow_bit]
 by_cases hi:i=n
 ·subst hi;simp [h]
 ·have:decide (i<n+1)=decide (i<n):=by apply Bool.eq_iff_iff.2;simp;omega
  simp [hi,this]
theorem setOf_skip {n:Nat} {p:Nat→Bool} (h:p n=false):setOf n p=setOf (n+1) p:=by
 show _=setOf n p+if p n then 2^n else 0
 rw [h];rfl

theorem shr_nat (n k:Nat) (hk:k≤60):(n:Int).fdiv (2^(min (k:Int).toNat IntKind.u64.bits))=((n / 2^k:Nat):Int):=by
 have h1:min (k:Int).toNat IntKind.u64.bits=k:=by show min k 64=k;omega
 rw [h1]
 have h2:(2:Int)^k=((2^k:Nat):Int):=(Int.natCast_pow 2 k).symm
 rw [h2,Int.fdiv_eq_ediv_of_nonneg _ (Int.natCast_nonneg _)]
 exact (Int.natCast_ediv _ _).symm
theorem div_lt {n k m:Nat} (h:n<m):n / 2^k<m:=Nat.lt_of_le_of_lt (Nat.div_le_self _ _) h
theorem and1 (n k:Nat):n / 2^k &&& 1=if n.testBit k then 1 else 0:=by
 rw [Nat.and_one_is_mod,Nat.testBit_eq_decide_div_mod_eq]
 have:n / 2^k % 2<2:=Nat.mod_lt _ (by decide)
 by_cases h:n / 2^k % 2=1
 ·simp [h]
 ·have h0:n / 2^k % 2=0:=by omega
  simp [h0]
theorem bit1 (n k:Nat):(((n / 2^k &&& 1:Nat):Int)==1)=n.testBit k:=by
 rw [and1];cases n.testBit k <;> rfl


theorem den64 (s i:Nat) (hs:s<2^62) (hi:i≤60):DN 64 [.int .u64 s,.int .i64 i] (.bool (s.testBit i)):=by
 refine mk Try.func64 Try.call64 rfl rfl ?_
 refine ⟨Int.natCast_nonneg _,_,shr_nat s i hi,?_⟩
 refine ⟨_,bits_and (b:=1) (div_lt hs) (by decide),?_⟩
 show some (D.bool _)=some (D.bool _)
 rw [← bit1]

theorem den57 (i:Nat) (hi:i≤60):DN 57 [.int .i64 i] (.int .u64 ((2^i:Nat):Int)):=by
 refine mk Try.func57 Try.call57 rfl rfl ?_
 exact ⟨Int.natCast_nonneg _,_,shl1 i hi,rfl⟩

def tanksN (s n:Nat):List Int:=((List.range n).filter fun i=>s.testBit i).map fun i=>((i:Nat):Int)
theorem tanksN_succ (s n:Nat):tanksN s (n+1)=if s.testBit n=true then tanksN s n++[(n:Int)] else tanksN s n:=by
 unfold tanksN
 rw [List.range_succ,List.filter_append,List.map_append]
 by_cases h:s.testBit n=true
 ·simp [h]
 ·simp [h]
theorem tanksN_le (s n:Nat):(tanksN s n).length≤n:=by
 unfold tanksN
 rw [List.length_map]
 exact Nat.le_trans (List.length_filter_le _ _) (by simp)
def tanks (s:Nat):List Int:=tanksN s 7

theorem den58 (s:Nat) (hs:s<2^62):DN 58 [.int .u64 s] (.list 1 ((tanks s).map encI)):=by
 refine mk Try.func58 Try.call58 rfl rfl ?_
 refine ⟨[0,2,4],0,[(.slot 2,1)],fun σ=>∃ (i g:Nat),i≤7 ∧
  σ=⟨[(0,.int .u64 s),(2,.sl 0 g 0 ((tanksN s i).map encI).length),(4,.int .i64 i)],[.rows false g 1 ((tanksN s i).map encI)],.non⟩,
  fun σ=>(1000 - slotI 4 σ).toNat,rfl,⟨rfl,rfl⟩,⟨0,0,Nat.zero_le _,rfl⟩,?_⟩
 rintro σ ⟨i,g,hi,rfl⟩
 have hle:=tanksN_le s i
 have hsucc:=tanksN_succ s i
 refine ⟨fun h1=>?_,fun h1=>?_⟩
 ·have h1:(i:Int)<7:=of_decide_eq_true h1
  have less:(1000 - ((i:Int)+1)).toNat<(1000 - (i:Int)).toNat:=by omega
  refine ⟨_,rfl,_,den64 s i hs (by omega),?_⟩
  refine ⟨fun h2=>?_,fun h2=>?_⟩
  ·rw [if_pos h2] at hsucc
   have hcat:(tanksN s i).map encI++[[D.int .i64 i]]=(tanksN s (i+1)).map encI:=by rw [hsucc];simp [encI]
   refine ⟨trivial,iff' (by rw [beq_self];rfl) ⟨Nat.le_of_eq (Nat.zero_add _),?_,_,old_all rfl,_,hcat,trivial,?_⟩⟩
   ·rw [encI_len];show (_+1)*8≤mostBytes;unfold mostBytes;omega
   refine ⟨(i:Int)+1,wrap64 (by omega) (by omega),?_⟩
   exact ⟨⟨rfl,rfl⟩,⟨i+1,g+1,by omega,rfl⟩,less⟩
  ·have h2:s.testBit i=false:=h2
   rw [if_neg (by rw [h2];decide)] at hsucc
   refine ⟨(i:Int)+1,wrap64 (by omega) (by omega),?_⟩
   exact ⟨⟨rfl,rfl⟩,⟨i+1,g,by omega,by rw [hsucc];rfl⟩,less⟩
 ·have h1:¬ (i:Int)<7:=of_decide_eq_false h1
  have e:i=7:=by omega
  subst e
  show reify [.rows false g 1 ((tanksN s 7).map encI)] 8 (.sl 0 g 0 ((tanksN s 7).map encI).length)=_
  exact reify_sl rfl rfl

end Go.Proofs.Vent

namespace Go.Proofs.Vent
open Go.V Go.Proofs

structure Tk where
 name:ByteArray
 kept:Bool
def Tk.enc (t:Tk):List D:=[.str t.name,.bool t.kept]
structure Pp where
 fr:Nat
 to:Nat
 welded:Bool
def Pp.enc (p:Pp):List D:=[.int .i64 p.fr,.int .i64 p.to,.bool p.welded]
structure NetL where
 tanks:List Tk
 pipes:List Pp
 kept:Nat
 wanted:Nat
 op:List Bool
def NetL.enc (n:NetL):List D:=[.list 2 (n.tanks.map Tk.enc),.list 3 (n.pipes.map Pp.enc),.int .u64 n.kept,.int .u64 n.wanted]++n.op.map D.bool
structure NetL.Ok (n:NetL):Prop where
 t1:1≤n.tanks.length
 t7:n.tanks.length≤7
 p:n.pipes.length≤12
 pe:∀ p∈n.pipes,p.fr<n.tanks.length∧p.to<n.tanks.length∧p.fr≠p.to
 k:n.kept<2^7
 w:n.wanted<2^7
 o:n.op.length=12

def NetL.opN (n:NetL) (i:Nat):Bool:=n.op.getD i false
theorem NetL.op_drop {n:NetL} (h:n.Ok) {i:Nat} (hi:i<12):(n.op.map D.bool).drop i=D.bool (n.opN i)::(n.op.map D.bool).drop (i+1):=by
 have hl:i<(n.op.map D.bool).length:=by rw [List.length_map,h.o];exact hi
 rw [List.drop_eq_getElem_cons hl]
 congr 1
 unfold NetL.opN
 simp [List.getD_eq_getElem?_getD,List.getElem?_eq_getElem (show i<n.op.length by rw [h.o];exact hi)]

def NetL.passN (n:NetL) (s:Nat):Nat→Nat
 | 0=>s
 | k+1=>match n.pipes[k]? with
  | none=>n.passN s k
  | some p=>if (n.opN k && ((n.passN s k).testBit p.fr || (n.passN s k).testBit p.to))=true then n.passN s k ||| (2^p.fr ||| 2^p.to) else n.passN s k
def NetL.pass (n:NetL) (s:Nat):Nat:=n.passN s n.pipes.length
def NetL.joinF (n:NetL):Nat→Nat→Nat
 | 0,t=>t
 | r+1,t=>if n.pass t=t then t else n.joinF r (n.pass t)
def NetL.joined (n:NetL) (s:Nat):Nat:=n.joinF 128 s

theorem pow7 {i:Nat} (h:i<7):2^i<2^7:=Nat.pow_lt_pow_right (by decide) h
theorem NetL.pass_lt {n:NetL} (h:n.Ok) {s:Nat} (hs:s<2^7):∀ k,n.passN s k<2^7
 | 0=>hs
 | k+1=>by
  have ih:=n.pass_lt h hs k
  unfold NetL.passN
  cases hp:n.pipes[k]? with
  | none=>exact ih
  | some p =>
   have hpe:=h.pe p (List.mem_of_getElem? hp)
   have h7:=h.t7
   simp only
   split
   ·exact or_lt ih (or_lt (pow7 (by omega)) (pow7 (by omega)))
   ·exact ih
theorem NetL.pass_ge (n:NetL) (s:Nat):∀ k,s≤n.passN s k
 | 0=>Nat.le_refl _
 | k+1=>by
  have ih:=n.pass_ge s k
  unfold NetL.passN
  cases hp:n.pipes[k]? with
  | none=>exact ih
  | some p =>
   simp only
   split
   ·exact Nat.le_trans ih Nat.left_le_or
   ·exact ih
theorem NetL.joinF_fix {n:NetL} {t:Nat} (h:n.pass t=t):∀ r,n.joinF r t=t
 | 0=>rfl
 | r+1=>by unfold NetL.joinF;rw [if_pos h]
theorem NetL.pass_zero (n:NetL):∀ k,n.passN 0 k=0
 | 0=>rfl
 | k+1=>by
  unfold NetL.passN
  rw [n.pass_zero k]
  cases n.pipes[k]? with
  | none=>rfl
  | some p=>simp

set_option maxHeartbeats 1000000 in
theorem den56 (n:NetL) (h:n.Ok) (s:Nat) (hs:s<2^7):DN 56 [.ro n.enc,.int .u64 s] (.int .u64 ((n.joined s:Nat):Int)):=by
 refine mk Try.func56 Try.call56 rfl rfl ?_
 have hpl:((n.pipes.map Pp.enc).length:Int)=n.pipes.length:=by simp
 refine ⟨[0,1,5],0,[],fun σ=>∃ last t r:Nat,t<2^7∧n.joinF r t=n.joined s∧128≤r+t∧(last=t→n.pass t=t) ∧
  σ=⟨[(0,.ro n.enc),(1,.int .u64 t),(5,.int .u64 last)],[],.non⟩,
  fun σ=>2*(128 - (slotI 1 σ).toNat)+(if slotI 5 σ=slotI 1 σ then 0 else 1),rfl,⟨rfl,rfl⟩,⟨0,s,128,hs,rfl,by omega,fun e=>by rw [← e];exact n.pass_zero _,rfl⟩,?_⟩
 rintro σ ⟨last,t,r,ht,hJ,hr,hfix,rfl⟩
 refine ⟨fun h1=>?_,fun h1=>?_⟩
 rotate_left
 ·have h1:((last:Int) != t)=false:=h1
  have e:(last:Int)=t:=by simpa using h1
  have e:last=t:=by omega
  rw [NetL.joinF_fix (hfix e)] at hJ
  show some (D.int .u64 (t:Int))=_
  rw [hJ]
 have h1:((last:Int) != t)=true:=h1
 have hne:(last:Int)≠t:=by simpa using h1
 refine ⟨[0,1,5,16,17,18],0,[],fun σ=>∃ k:Nat,k≤n.pipes.length ∧
  σ=⟨[(0,.ro n.enc),(1,.int .u64 ((n.passN t k:Nat):Int)),(5,.int .u64 t),(16,.list 3 (n.pipes.map Pp.enc)),(17,.int .i64 (n.pipes.map Pp.enc).length),(18,.int .i64 k)],[],.non⟩,
  fun σ=>(1000 - slotI 18 σ).toNat,rfl,⟨rfl,rfl⟩,⟨0,Nat.zero_le _,rfl⟩,?_⟩
 rintro σ ⟨k,hk,rfl⟩
 refine ⟨fun h2=>?_,fun h2=>?_⟩
 ·have h2:=of_decide_eq_true h2
  rw [hpl] at h2
  have hk':k<n.pipes.length:=by omega
  obtain ⟨p,hp⟩:∃ p,n.pipes[k]=p:=⟨_,rfl⟩
  have hgp:n.pipes[k]?=some p:=by rw [List.getElem?_eq_getElem hk',hp]
  have hrow:(n.pipes.map Pp.enc)[((k:Int)).toNat]?=some (p.enc):=by simp [hk',hp]
  have hpe:=h.pe p (List.mem_of_getElem? hgp)
  have h7:=h.t7
  have h12:=h.p
  have less:(1000 - ((k:Int)+1)).toNat<(1000 - (k:Int)).toNat:=by omega
  have hlt:=n.pass_lt h ht k
  have hstep:n.passN t (k+1)=if (n.opN k && ((n.passN t k).testBit p.fr || (n.passN t k).testBit p.to))=true then n.passN t k ||| (2^p.fr ||| 2^p.to) else n.passN t k:=by
   show (match n.pipes[k]? with | none=>_ | some p=>_)=_
   rw [hgp]
  obtain ⟨c,hc⟩:∃ c,n.passN t k=c:=⟨_,rfl⟩
  rw [hc] at hlt hstep ⊢
  have hskip:(n.opN k && (c.testBit p.fr || c.testBit p.to))=false→n.passN t (k+1)=c:=fun h=>by rw [hstep,if_neg (by rw [h];decide)]
  have hset:(n.opN k && (c.testBit p.fr || c.testBit p.to))=true→n.passN t (k+1)=c ||| (2^p.fr ||| 2^p.to):=fun h=>by rw [hstep,if_pos h]
  have hor1:2^p.fr ||| 2^p.to<2^7:=or_lt (pow7 (by omega)) (pow7 (by omega))
  refine ⟨by omega,_,hrow,?_⟩
  have hdrop:=n.op_drop h (i:=k) (by omega)
  refine ⟨⟨by omega,by omega⟩,_,(show (n.op.map D.bool).drop (k*1)=D.bool (n.opN k)::(n.op.map D.bool).drop (k+1) by rw [Nat.mul_one];exact hdrop),?_⟩
  have nxt:True:=trivial
  refine ⟨fun h3=>?_,fun h3=>?_⟩
  rotate_left
  ·have h3:n.opN k=false:=h3
   have hs':=hskip (by rw [h3];rfl)
   refine ⟨(k:Int)+1,wrap64 (by omega) (by omega),?_⟩
   exact ⟨⟨rfl,rfl⟩,⟨k+1,hk',by rw [hs'];rfl⟩,less⟩
  have h3:n.opN k=true:=h3
  refine ⟨_,rfl,_,den64 c p.fr (by omega) (by omega),?_⟩
  refine ⟨fun h4=>?_,fun h4=>?_⟩
  ·have h4:c.testBit p.fr=true:=h4
   have hs':=hset (by rw [h3,h4];rfl)
   refine Or.inl ⟨by kernel_rfl,?_⟩
   refine ⟨_,rfl,_,den57 p.fr (by omega),?_⟩
   refine ⟨_,rfl,_,den57 p.to (by omega),?_⟩
   refine ⟨_,bits_or (Nat.lt_of_lt_of_le (pow7 (by omega)) (by decide)) (Nat.lt_of_lt_of_le (pow7 (by omega)) (by decide)),?_⟩
   refine ⟨_,bits_or (by omega) (by omega),?_⟩
   refine ⟨(k:Int)+1,wrap64 (by omega) (by omega),?_⟩
   exact ⟨⟨rfl,rfl⟩,⟨k+1,hk',by rw [hs'];rfl⟩,less⟩
  ·have h4:c.testBit p.fr=false:=h4
   refine ⟨_,rfl,_,den64 c p.to (by omega) (by omega),?_⟩
   refine ⟨fun h5=>?_,fun h5=>?_⟩
   ·have h5:c.testBit p.to=true:=h5
    have hs':=hset (by rw [h3,h4,h5];rfl)
    refine Or.inl ⟨by kernel_rfl,?_⟩
    refine ⟨_,rfl,_,den57 p.fr (by omega),?_⟩
    refine ⟨_,rfl,_,den57 p.to (by omega),?_⟩
    refine ⟨_,bits_or (Nat.lt_of_lt_of_le (pow7 (by omega)) (by decide)) (Nat.lt_of_lt_of_le (pow7 (by omega)) (by decide)),?_⟩
    refine ⟨_,bits_or (by omega) (by omega),?_⟩
    refine ⟨(k:Int)+1,wrap64 (by omega) (by omega),?_⟩
    exact ⟨⟨rfl,rfl⟩,⟨k+1,hk',by rw [hs'];rfl⟩,less⟩
   ·have h5:c.testBit p.to=false:=h5
    have hs':=hskip (by rw [h3,h4,h5];rfl)
    refine ⟨(k:Int)+1,wrap64 (by omega) (by omega),?_⟩
    exact ⟨⟨rfl,rfl⟩,⟨k+1,hk',by rw [hs'];rfl⟩,less⟩
 ·have h2:=of_decide_eq_false h2
  rw [hpl] at h2
  have e:k=n.pipes.length:=by omega
  subst e
  have hge:=n.pass_ge t n.pipes.length
  have hlt:=n.pass_lt h ht n.pipes.length
  obtain ⟨c,hc⟩:∃ c,n.passN t n.pipes.length=c:=⟨_,rfl⟩
  rw [hc] at hge hlt ⊢
  have hpass:n.pass t=c:=hc
  have hr1:∃ q,r=q+1:=⟨r - 1,by omega⟩
  obtain ⟨q,rfl⟩:=hr1
  by_cases hct:c=t
  ·subst hct
   refine ⟨⟨rfl,rfl⟩,⟨c,c,q+1,ht,hJ,hr,fun _=>hpass,rfl⟩,?_⟩
   show 2*(128 - ((c:Int)).toNat)+(if ((c:Nat):Int)=c then 0 else 1)<2*(128 - ((c:Int)).toNat)+(if ((last:Nat):Int)=c then 0 else 1)
   rw [if_pos rfl,if_neg hne];omega
  · have hJ':n.joinF q c=n.joined s:=by
      rw [← hJ]
      show _=if n.pass t=t then t else n.joinF q (n.pass t)
      rw [hpass,if_neg hct]
    refine ⟨⟨rfl,rfl⟩,⟨t,c,q,hlt,hJ',by omega,fun e=>absurd e.symm hct,rfl⟩,?_⟩
    show 2*(128 - ((c:Int)).toNat)+(if ((t:Nat):Int)=c then 0 else 1)<2*(128 - ((t:Int)).toNat)+(if ((last:Nat):Int)=t then 0 else 1)
    rw [if_neg hne]
    split <;> omega

end Go.Proofs.Vent

namespace Go.Proofs.Vent
open Go.V Go.Proofs

theorem NetL.joinF_lt {n:NetL} (h:n.Ok):∀ r t,t<2^7→n.joinF r t<2^7
 | 0,_,ht=>ht
 | r+1,t,ht=>by
  unfold NetL.joinF
  split
  ·exact ht
  ·exact n.joinF_lt h r _ (n.pass_lt h ht _)
def NetL.separate (n:NetL):Bool:=n.joined n.wanted &&& n.kept==0

theorem den63 (n:NetL) (h:n.Ok):DN 63 [.ro n.enc] (.bool n.separate):=by
 refine mk Try.func63 Try.call63 rfl rfl ?_
 have hj:=n.joinF_lt h 128 n.wanted h.w
 have hk:=h.k
 have h56:=den56 n h n.wanted h.w
 obtain ⟨c,hc⟩:∃ c,n.joined n.wanted=c:=⟨_,rfl⟩
 have hj:n.joined n.wanted<2^7:=hj
 rw [hc] at h56 hj
 refine Or.inl ⟨by kernel_rfl,?_⟩
 refine ⟨_,rfl,_,h56,?_⟩
 refine ⟨_,bits_and (by omega) (by omega),?_⟩
 show some (D.bool _)=some (D.bool _)
 congr 2
 unfold NetL.separate
 rw [hc]
 obtain ⟨m,hm⟩:∃ m,c &&& n.kept=m:=⟨_,rfl⟩
 rw [hm]
 apply Bool.eq_iff_iff.2
 simp

end Go.Proofs.Vent

namespace Go.Proofs.Vent
open Go.V Go.Proofs

def stD (f b:Nat):List D:=[.int .u64 f,.int .u64 b]
def NetL.spN (n:NetL) (f b:Nat):Nat→Nat
 | 0=>f
 | k+1=>match n.pipes[k]? with
  | none=>n.spN f b k
  | some p=>if (!(n.opN k) || ((n.spN f b k).testBit p.fr==(n.spN f b k).testBit p.to))=true then n.spN f b k else diff (n.spN f b k) (diff (n.spN f b k &&& (2^p.fr ||| 2^p.to)) b)
def NetL.sp (n:NetL) (f b:Nat):Nat:=n.spN f b n.pipes.length
def NetL.spreadF (n:NetL):Nat→Nat→Nat→Nat
 | 0,f,_=>f
 | r+1,f,b=>if n.sp f b=f then f else n.spreadF r (n.sp f b) b
def NetL.spread (n:NetL) (f b:Nat):Nat:=n.spreadF 128 f b

theorem diff_le (a b:Nat):diff a b≤a:=by
 have h:diff a b ||| (a &&& b)=a:=by
  apply Nat.eq_of_testBit_eq
  intro i
  rw [Nat.testBit_or,diff_bit,Nat.testBit_and]
  cases a.testBit i <;> cases b.testBit i <;> rfl
 have h2:diff a b≤diff a b ||| (a &&& b):=Nat.left_le_or
 omega
theorem NetL.spN_le (n:NetL) (f b:Nat):∀ k,n.spN f b k≤f
 | 0=>Nat.le_refl _
 | k+1=>by
  have ih:=n.spN_le f b k
  unfold NetL.spN
  cases hp:n.pipes[k]? with
  | none=>exact ih
  | some p =>
   simp only
   split
   ·exact ih
   ·exact Nat.le_trans (diff_le _ _) ih

theorem NetL.spreadF_fix {n:NetL} {f b:Nat} (h:n.sp f b=f):∀ r,n.spreadF r f b=f
 | 0=>rfl
 | r+1=>by unfold NetL.spreadF;rw [if_pos h]

def cellI (i off:Nat) (σ:St):Int:=match σ.boxes[i]? with
 | some (.flat _ cs)=>match cs[off]? with
  | some (.int _ n)=>n
  | _=>0
 | _=>0
theorem NetL.spN_lt {n:NetL} {f b:Nat} (hf:f<2^7) (k:Nat):n.spN f b k<2^7:=Nat.lt_of_le_of_lt (n.spN_le f b k) hf

set_option maxHeartbeats 4000000 in
theorem den89 (n:NetL) (h:n.Ok) (f b:Nat) (hf:f<2^7) (hb:b<2^7):DN 89 [.ro n.enc,.agg (stD f b)] (.agg (stD (n.spread f b) b)):=by
 refine mk Try.func89 Try.call89 rfl rfl ?_
 have hpl:((n.pipes.map Pp.enc).length:Int)=n.pipes.length:=by simp
 refine ⟨[0,3,4,5],3,[(.swap 2 3,0)],fun σ=>∃ (lf lb t r:Nat),t<2^7∧n.spreadF r t b=n.spread f b∧t<r∧(lf=t→lb=b→n.sp t b=t) ∧
  σ=⟨[(0,.ro n.enc),(3,.loc 0 0),(4,.loc 1 0),(5,.loc 2 0)],[.flat false (stD t b),.flat false [.int .u64 0,.int .u64 0],.flat false (stD lf lb)],.non⟩,
  fun σ=>2*(cellI 0 0 σ).toNat+(if cellI 2 0 σ=cellI 0 0 σ∧cellI 2 1 σ=cellI 0 1 σ then 0 else 1),rfl,⟨rfl,rfl⟩,⟨0,0,f,128,hf,rfl,by omega,fun e1 _=>?_,rfl⟩,?_⟩
 ·have:=n.spN_le f b n.pipes.length
  show n.spN f b n.pipes.length=f
  omega
 rintro σ ⟨lf,lb,t,r,ht,hJ,hr,hfix,rfl⟩
 refine ⟨fun h1=>?_,fun h1=>?_⟩
 rotate_left
 ·have h1:(!((lf:Int)==t && ((lb:Int)==b && true)))=false:=h1
  simp at h1
  rw [NetL.spreadF_fix (hfix (by omega) (by omega))] at hJ
  rw [← hJ]
  rfl
 have h1:(!((lf:Int)==t && ((lb:Int)==b && true)))=true:=h1
 have hne:¬ ((lf:Int)=t∧(lb:Int)=b):=by simp at h1;omega
 refine ⟨[0,3,4,5,18,19,20],3,[],fun σ=>∃ k:Nat,k≤n.pipes.length ∧
  σ=⟨[(0,.ro n.enc),(3,.loc 0 0),(4,.loc 1 0),(5,.loc 2 0),(18,.list 3 (n.pipes.map Pp.enc)),(19,.int .i64 (n.pipes.map Pp.enc).length),(20,.int .i64 k)],
   [.flat false (stD (n.spN t b k) b),.flat false [.int .u64 0,.int .u64 0],.flat false (stD t b)],.non⟩,
  fun σ=>(1000 - slotI 20 σ).toNat,rfl,⟨rfl,rfl⟩,⟨0,Nat.zero_le _,rfl⟩,?_⟩
 rintro σ ⟨k,hk,rfl⟩
 refine ⟨fun h2=>?_,fun h2=>?_⟩
 ·have h2:=of_decide_eq_true h2
  rw [hpl] at h2
  have hk':k<n.pipes.length:=by omega
  obtain ⟨p,hp⟩:∃ p,n.pipes[k]=p:=⟨_,rfl⟩
  have hgp:n.pipes[k]?=some p:=by rw [List.getElem?_eq_getElem hk',hp]
  have hrow:(n.pipes.map Pp.enc)[((k:Int)).toNat]?=some (p.enc):=by simp [hk',hp]
  have hpe:=h.pe p (List.mem_of_getElem? hgp)
  have h7:=h.t7
  have h12:=h.p
  have less:(1000 - ((k:Int)+1)).toNat<(1000 - (k:Int)).toNat:=by omega
  have hlt:=n.spN_lt (b:=b) ht k
  have hstep:n.spN t b (k+1)=if (!(n.opN k) || ((n.spN t b k).testBit p.fr==(n.spN t b k).testBit p.to))=true then n.spN t b k else diff (n.spN t b k) (diff (n.spN t b k &&& (2^p.fr ||| 2^p.to)) b):=by
   show (match n.pipes[k]? with | none=>_ | some p=>_)=_
   rw [hgp]
  obtain ⟨c,hc⟩:∃ c,n.spN t b k=c:=⟨_,rfl⟩
  rw [hc] at hlt hstep ⊢
  have hskip:(!(n.opN k) || (c.testBit p.fr==c.testBit p.to))=true→n.spN t b (k+1)=c:=fun h=>by rw [hstep,if_pos h]
  have hset:(!(n.opN k) || (c.testBit p.fr==c.testBit p.to))=false→n.spN t b (k+1)=diff c (diff (c &&& (2^p.fr ||| 2^p.to)) b):=fun h=>by rw [hstep,if_neg (by rw [h];decide)]
  have hor1:2^p.fr ||| 2^p.to<2^7:=or_lt (pow7 (by omega)) (pow7 (by omega))
  have hand1:c &&& (2^p.fr ||| 2^p.to)<2^7:=Nat.lt_of_le_of_lt Nat.and_le_left hlt
  have hdif1:diff (c &&& (2^p.fr ||| 2^p.to)) b<2^7:=diff_lt hand1
  have hdrop:=n.op_drop h (i:=k) (by omega)
  refine ⟨by omega,_,hrow,?_⟩
  refine Or.inl ⟨by kernel_rfl,?_⟩
  refine ⟨⟨by omega,by omega⟩,_,(show (n.op.map D.bool).drop (k*1)=D.bool (n.opN k)::(n.op.map D.bool).drop (k+1) by rw [Nat.mul_one];exact hdrop),?_⟩
  refine ⟨fun h3=>?_,fun h3=>?_⟩
  ·have h3:(!(n.opN k))=true:=h3
   have hs':=hskip (by rw [h3];rfl)
   refine ⟨(k:Int)+1,wrap64 (by omega) (by omega),?_⟩
   exact ⟨⟨rfl,rfl⟩,⟨k+1,hk',by rw [hs'];rfl⟩,less⟩
  have h3:(!(n.opN k))=false:=h3
  refine ⟨_,rfl,_,den64 c p.fr (by omega) (by omega),?_⟩
  refine ⟨_,rfl,_,den64 c p.to (by omega) (by omega),?_⟩
  refine ⟨fun h4=>?_,fun h4=>?_⟩
  ·have h4:(c.testBit p.fr==c.testBit p.to)=true:=h4
   have hs':=hskip (by rw [h3,h4];rfl)
   refine ⟨(k:Int)+1,wrap64 (by omega) (by omega),?_⟩
   exact ⟨⟨rfl,rfl⟩,⟨k+1,hk',by rw [hs'];rfl⟩,less⟩
  ·have h4:(c.testBit p.fr==c.testBit p.to)=false:=h4
   have hs':=hset (by rw [h3,h4];rfl)
   refine Or.inl ⟨by kernel_rfl,?_⟩
   refine ⟨_,rfl,_,den57 p.fr (by omega),?_⟩
   refine ⟨_,rfl,_,den57 p.to (by omega),?_⟩
   refine ⟨_,bits_or (Nat.lt_of_lt_of_le (pow7 (by omega)) (by decide)) (Nat.lt_of_lt_of_le (pow7 (by omega)) (by decide)),?_⟩
   refine ⟨_,bits_and (by omega) (by omega),?_⟩
   refine ⟨_,bits_andNot (by omega) (by omega),?_⟩
   refine ⟨_,bits_andNot (by omega) (by omega),?_⟩
   refine ⟨(k:Int)+1,wrap64 (by omega) (by omega),?_⟩
   exact ⟨⟨rfl,rfl⟩,⟨k+1,hk',by rw [hs'];rfl⟩,less⟩
 ·have h2:=of_decide_eq_false h2
  rw [hpl] at h2
  have e:k=n.pipes.length:=by omega
  subst e
  have hle:=n.spN_le t b n.pipes.length
  have hlt:=n.spN_lt (b:=b) ht n.pipes.length
  obtain ⟨c,hc⟩:∃ c,n.spN t b n.pipes.length=c:=⟨_,rfl⟩
  rw [hc] at hle hlt ⊢
  have hpass:n.sp t b=c:=hc
  have hr1:∃ q,r=q+1:=⟨r - 1,by omega⟩
  obtain ⟨q,rfl⟩:=hr1
  by_cases hct:c=t
  ·subst hct
   refine ⟨⟨rfl,rfl⟩,⟨c,b,c,q+1,ht,hJ,hr,fun _ _=>hpass,rfl⟩,?_⟩
   show 2*((c:Int)).toNat+(if ((c:Nat):Int)=c∧((b:Nat):Int)=b then 0 else 1)<2*((c:Int)).toNat+(if ((lf:Nat):Int)=c∧((lb:Nat):Int)=b then 0 else 1)
   rw [if_pos ⟨rfl,rfl⟩,if_neg hne];omega
  · have hJ':n.spreadF q c b=n.spread f b:=by
      rw [← hJ]
      show _=if n.sp t b=t then t else n.spreadF q (n.sp t b) b
      rw [hpass,if_neg hct]
    refine ⟨⟨rfl,rfl⟩,⟨t,b,c,q,hlt,hJ',by omega,fun e=>absurd e.symm hct,rfl⟩,?_⟩
    show 2*((c:Int)).toNat+(if ((t:Nat):Int)=c∧((b:Nat):Int)=b then 0 else 1)<2*((t:Int)).toNat+(if ((lf:Nat):Int)=t∧((lb:Nat):Int)=b then 0 else 1)
    rw [if_neg hne]
    split <;> omega

end Go.Proofs.Vent

namespace Go.Proofs.Vent
open Go.V Go.Proofs

def NetL.stepR (n:NetL) (f b i:Nat) (off:Bool):(Nat × Nat) × Bool :=
 if (n.kept.testBit i || !(b.testBit i==off))=true then ((f,b),false)
 else match off with
  | true=>((n.spread f (diff b (2^i)),diff b (2^i)),true)
  | false=>((n.spread (f ||| 2^i) (b ||| 2^i),b ||| 2^i),true)

theorem den59 (n:NetL) (h:n.Ok) (f b i:Nat) (hf:f<2^7) (hb:b<2^7) (hi:i<7) (off:Bool) :
    DN 59 [.ro n.enc,.agg (stD f b),.agg [.int .i64 i,.bool off]] (.tup [.agg (stD (n.stepR f b i off).1.1 (n.stepR f b i off).1.2),.bool (n.stepR f b i off).2]):=by
  refine mk Try.func59 Try.call59 rfl rfl ?_
  have hk:=h.k
  have hp:=pow7 hi
  refine Or.inl ⟨by kernel_rfl,?_⟩
  refine ⟨_,rfl,_,den64 n.kept i (by omega) (by omega),?_⟩
  refine ⟨fun h1=>?_,fun h1=>?_⟩
  ·have h1:n.kept.testBit i=true:=h1
   have e:n.stepR f b i off=((f,b),false):=by unfold NetL.stepR;rw [if_pos (by rw [h1];rfl)]
   rw [e];rfl
  have h1:n.kept.testBit i=false:=h1
  refine ⟨_,rfl,_,den64 b i (by omega) (by omega),?_⟩
  refine ⟨fun h2=>?_,fun h2=>?_⟩
  ·have h2:(!(b.testBit i==off))=true:=h2
   have e:n.stepR f b i off=((f,b),false):=by unfold NetL.stepR;rw [if_pos (by rw [h1,h2];rfl)]
   rw [e];rfl
  have h2:(!(b.testBit i==off))=false:=h2
  cases off with
  | true =>
   have e:n.stepR f b i true=((n.spread f (diff b (2^i)),diff b (2^i)),true):=by unfold NetL.stepR;rw [if_neg (by rw [h1,h2];decide)]
   rw [e]
   have h89:=den89 n h f (diff b (2^i)) hf (diff_lt hb)
   refine ⟨fun _=>?_,fun h=>absurd h (by decide)⟩
   refine Or.inr (Or.inl ⟨6,[],by kernel_rfl,?_⟩)
   refine ⟨_,rfl,_,den57 i (by omega),?_⟩
   refine ⟨_,bits_andNot (by omega) (by omega),?_⟩
   refine ⟨trivial,?_⟩
   refine ⟨trivial,?_⟩
   exact ⟨_,rfl,_,h89,rfl⟩
  | false =>
   have e:n.stepR f b i false=((n.spread (f ||| 2^i) (b ||| 2^i),b ||| 2^i),true):=by unfold NetL.stepR;rw [if_neg (by rw [h1,h2];decide)]
   rw [e]
   have h89:=den89 n h (f ||| 2^i) (b ||| 2^i) (or_lt hf hp) (or_lt hb hp)
   refine ⟨fun h=>absurd h (by decide),fun _=>?_⟩
   refine Or.inr (Or.inl ⟨6,[],by kernel_rfl,?_⟩)
   refine ⟨_,rfl,_,den57 i (by omega),?_⟩
   refine ⟨_,bits_or (by omega) (by omega),?_⟩
   refine ⟨trivial,?_⟩
   refine ⟨trivial,?_⟩
   refine Or.inr (Or.inl ⟨6,[],by kernel_rfl,?_⟩)
   refine ⟨_,rfl,_,den57 i (by omega),?_⟩
   refine ⟨_,bits_or (by omega) (by omega),?_⟩
   refine ⟨trivial,?_⟩
   refine ⟨trivial,?_⟩
   exact ⟨_,rfl,_,h89,rfl⟩

end Go.Proofs.Vent

namespace Go.Proofs.Vent
open Go.V Go.Proofs

theorem mkI {f:FuncId} {fn:Func} (hf:Try.prog.funcs[f]?=some fn) (he:Enters Try.prog f) (hb:bodyOK fn=true) {args:List D} {xs:List (List D)} (hn:Nat.ble (args.length+1) fn.ntmps=true) (h:BodyIter Try.tt (CD Try.prog shV) (ItD Try.prog ishV) fn args xs):IT f args xs :=
 iter_of Try.tok Try.mixed hf he hb hn h

def NetL.stepsF (n:NetL) (f b:Nat):Nat→Nat→List (List D)
 | 0,_=>[]
 | r+1,i=>match (n.stepR f b i (b.testBit i)).2 with
  | true=>[.agg [.int .i64 i,.bool (b.testBit i)],.agg (stD (n.stepR f b i (b.testBit i)).1.1 (n.stepR f b i (b.testBit i)).1.2)]::n.stepsF f b r (i+1)
  | false=>n.stepsF f b r (i+1)

theorem den96 (n:NetL) (f b:Nat):DN 96 [.ro n.enc,.agg (stD f b)] (.clo (.func 103) [] [.ro [.ro n.enc],.ro (stD f b)]):=by
 refine mk Try.func96 Try.call96 rfl rfl ?_
 rfl

theorem it103 (n:NetL) (h:n.Ok) (f b:Nat) (hf:f<2^7) (hb:b<2^7):IT 103 [.ro [.ro n.enc],.ro (stD f b)] (n.stepsF f b n.tanks.length 0):=by
 refine mkI Try.func103 Try.call103 rfl rfl ?_
 intro l
 have htl:((n.tanks.map Tk.enc).length:Int)=n.tanks.length:=by simp
 have h7:=h.t7
 refine ⟨[0,1,2,13,14],0,[],fun σ=>∃ i:Nat,i≤n.tanks.length ∧
  σ=⟨[(0,.yld l),(1,.ro [.ro n.enc]),(2,.ro (stD f b)),(13,.int .i64 (n.tanks.map Tk.enc).length),(14,.int .i64 i)],[],.rem l (n.stepsF f b (n.tanks.length - i) i)⟩,
  fun σ=>(1000 - slotI 14 σ).toNat,rfl,⟨rfl,rfl⟩,⟨0,Nat.zero_le _,rfl⟩,?_⟩
 rintro σ ⟨i,hi,rfl⟩
 refine ⟨fun h1=>?_,fun h1=>?_⟩
 ·have h1:=of_decide_eq_true h1
  rw [htl] at h1
  have less:(1000 - ((i:Int)+1)).toNat<(1000 - (i:Int)).toNat:=by omega
  have hst:n.stepsF f b (n.tanks.length - i) i=match (n.stepR f b i (b.testBit i)).2 with
   | true=>[.agg [.int .i64 i,.bool (b.testBit i)],.agg (stD (n.stepR f b i (b.testBit i)).1.1 (n.stepR f b i (b.testBit i)).1.2)]::n.stepsF f b (n.tanks.length - (i+1)) (i+1)
   | false=>n.stepsF f b (n.tanks.length - (i+1)) (i+1):=by
   rw [show n.tanks.length - i=(n.tanks.length - (i+1))+1 by omega];rfl
  have h59:=den59 n h f b i hf hb (by omega) (b.testBit i)
  obtain ⟨⟨⟨a1,a2⟩,a3⟩,ha⟩:∃ a,n.stepR f b i (b.testBit i)=a:=⟨_,rfl⟩
  rw [ha] at h59 hst
  rw [hst]
  have h59:DN 59 [.ro n.enc,.agg (stD f b),.agg [.int .i64 i,.bool (b.testBit i)]] (.tup [.agg (stD a1 a2),.bool a3]):=h59
  refine ⟨_,rfl,_,den64 b i (by omega) (by omega),?_⟩
  refine ⟨_,rfl,_,h59,?_⟩
  cases a3 with
  | true =>
   refine ⟨fun _=>?_,fun h=>absurd h (by decide)⟩
   refine ⟨rfl,⟨_,rfl,rfl⟩,?_,?_⟩
   ·refine ⟨(i:Int)+1,wrap64 (by omega) (by omega),?_⟩
    exact ⟨⟨rfl,rfl⟩,⟨i+1,by omega,rfl⟩,less⟩
   ·rfl
  | false =>
   refine ⟨fun h=>absurd h (by decide),fun _=>?_⟩
   refine ⟨(i:Int)+1,wrap64 (by omega) (by omega),?_⟩
   exact ⟨⟨rfl,rfl⟩,⟨i+1,by omega,rfl⟩,less⟩
 ·have h1:=of_decide_eq_false h1
  rw [htl] at h1
  have e:n.tanks.length - i=0:=by omega
  rw [e]
  rfl

end Go.Proofs.Vent

namespace Go.Proofs.Vent
open Go.V Go.Proofs

def webD (n:NetL) (now:List Int):List D:=[.ro n.enc]++now.map fun v=>D.int .i64 v
def nowAt (now:List Int) (i:Nat):Int:=now.getD i 0
theorem now_drop {now:List Int} {i:Nat} (hi:i<now.length):(now.map fun v=>D.int .i64 v).drop i=D.int .i64 (nowAt now i)::(now.map fun v=>D.int .i64 v).drop (i+1):=by
 have hl:i<(now.map fun v=>D.int .i64 v).length:=by rw [List.length_map];exact hi
 rw [List.drop_eq_getElem_cons hl]
 congr 1
 unfold nowAt
 simp [List.getD_eq_getElem?_getD,List.getElem?_eq_getElem hi]

def NetL.room (n:NetL) (now:List Int) (i fr:Nat):Bool :=
 match n.pipes[i]? with
 | none=>false
 | some p=>if n.opN i=false then false else if p.welded=true then true else decide ((if p.to=fr then -(nowAt now i) else nowAt now i)<1)

theorem den102 (n:NetL) (h:n.Ok) (now:List Int) (hn:now.length=12) (hs:∀ v∈now,-1000≤v∧v≤1000) (i fr:Nat) (hi:i<n.pipes.length):DN 102 [.ro (webD n now),.int .i64 i,.int .i64 fr] (.bool (n.room now i fr)):=by
 refine mk Try.func102 Try.call102 rfl rfl ?_
 have h12:=h.p
 have hdrop:=n.op_drop h (i:=i) (by omega)
 have hdn:=now_drop (now:=now) (i:=i) (by omega)
 have hv:-1000≤nowAt now i∧nowAt now i≤1000:=by
  unfold nowAt
  rw [List.getD_eq_getElem?_getD,List.getElem?_eq_getElem (by omega)]
  exact hs _ (List.getElem_mem _)
 obtain ⟨v,ev⟩:∃ v,nowAt now i=v:=⟨_,rfl⟩
 rw [ev] at hdn hv
 obtain ⟨p,hp⟩:∃ p,n.pipes[i]=p:=⟨_,rfl⟩
 have hgp:n.pipes[i]?=some p:=by rw [List.getElem?_eq_getElem hi,hp]
 have hrow:(n.pipes.map Pp.enc)[((i:Int)).toNat]?=some (p.enc):=by simp [hi,hp]
 have hroom:n.room now i fr=if n.opN i=false then false else if p.welded=true then true else decide ((if p.to=fr then -v else v)<1):=by
  unfold NetL.room
  rw [hgp,ev]
 refine ⟨⟨by omega,by omega⟩,_,(show (n.op.map D.bool).drop (i*1)=D.bool (n.opN i)::(n.op.map D.bool).drop (i+1) by rw [Nat.mul_one];exact hdrop),?_⟩
 refine ⟨fun h1=>?_,fun h1=>?_⟩
 ·have h1:(!(n.opN i))=true:=h1
  rw [hroom,if_pos (by simpa using h1)];rfl
 have h1:(!(n.opN i))=false:=h1
 rw [if_neg (by simp at h1;simp [h1])] at hroom
 refine ⟨by omega,_,hrow,?_⟩
 refine ⟨fun h2=>?_,fun h2=>?_⟩
 ·have h2:p.welded=true:=h2
  rw [hroom,if_pos h2];rfl
 have h2:p.welded=false:=h2
 rw [if_neg (by rw [h2];decide)] at hroom
 refine ⟨⟨by omega,by omega⟩,_,(show (now.map fun v=>D.int .i64 v).drop (i*1)=D.int .i64 v::(now.map fun v=>D.int .i64 v).drop (i+1) by rw [Nat.mul_one];exact hdn),?_⟩
 refine ⟨by omega,_,hrow,?_⟩
 refine ⟨fun h3=>?_,fun h3=>?_⟩
 ·have h3:((p.to:Int)==fr)=true:=h3
  have h3:p.to=fr:=by simp at h3;omega
  refine ⟨-v,by rw [show (0:Int) - v=-v by omega];exact wrap64 (by omega) (by omega),?_⟩
  rw [hroom,if_pos h3];rfl
 ·have h3:((p.to:Int)==fr)=false:=h3
  have h3:¬ p.to=fr:=by simp at h3;omega
  rw [hroom,if_neg h3];rfl

end Go.Proofs.Vent
