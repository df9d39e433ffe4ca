/- What ballasted_holds leans on, part RD. No condition. -/
import Derived.Test.YthglcafppddedaaGreatDoorPackRC

set_option linter.all false
namespace Go.Proofs.Ball.R15
open Go.V Go.Proofs Go.Proofs.Ball
set_option maxRecDepth 100000
theorem G1{ws:List WE}{cs:List CE}{is:List IE}{ys:List YE}{k:Nat}{az:List D}{bs:List af}{d:D}{c:List af}(h:(L ws cs is ys).calY k az bs=some (d,c)):DY k az bs .aQ λe c' z=>e=d/\c'=c/\z=.aQ:=
 (Dl ws cs is ys).shr k az bs .aQ d c .aQ (by show(match(L ws cs is ys).calY k az bs with|some (e,cs)=>some (e,cs,eG.aQ)|none=>none)=_;rw[h])
def fz(n:Int):List D:=[.int .i64 n,.loc 0 0,.loc 2 0,.loc 3 0]
def fb(ks vs:List D):List af:=[.flat false [.cn 1],.map false ks vs,.flat false [.ro Qm],.flat false [.bR (.func 240) [] [.loc 0 0,.loc 2 0,.loc 3 0]]]
def iv(n:Int):D:=.int .i64 n
theorem f0:(L ws cs is []).calY 240 (fz 0) (fb [] [])=some (iv 0,fb [iv 0] [iv 0]):=by kernel_rfl
def Zr:YE:=⟨240,fz 0,fb [] [],iv 0,fb [iv 0] [iv 0],G1 f0⟩
theorem f2:(L ws cs is [Zr]).calY 240 (fz 2) (fb [] [])=some (iv 1,fb [iv 0,iv 2] [iv 0,iv 1]):=by kernel_rfl
def ye2:YE:=⟨240,fz 2,fb [] [],iv 1,fb [iv 0,iv 2] [iv 0,iv 1],G1 f2⟩
theorem f6:(L ws cs is [Zr,ye2]).calY 240 (fz 6) (fb [] [])=some (iv 2,fb [iv 0,iv 2,iv 6] [iv 0,iv 1,iv 2]):=by kernel_rfl
def ye6:YE:=⟨240,fz 6,fb [] [],iv 2,fb [iv 0,iv 2,iv 6] [iv 0,iv 1,iv 2],G1 f6⟩
theorem f7:(L ws cs is [Zr,ye2,ye6]).calY 240 (fz 7) (fb [] [])=some (iv 3,fb [iv 0,iv 2,iv 6,iv 7] [iv 0,iv 1,iv 2,iv 3]):=by kernel_rfl
def ye7:YE:=⟨240,fz 7,fb [] [],iv 3,fb [iv 0,iv 2,iv 6,iv 7] [iv 0,iv 1,iv 2,iv 3],G1 f7⟩
def ys:List YE:=[Zr,ye2,ye6,ye7]
theorem t:(L ws cs is ys).cal 15 []=some (.bool true):=by kernel_rfl
theorem den:DN 15 [] (.bool true):=pM t
end Go.Proofs.Ball.R15
