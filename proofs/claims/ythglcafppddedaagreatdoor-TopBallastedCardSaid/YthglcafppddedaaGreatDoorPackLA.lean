/- What ballasted_holds leans on, part LA. No condition. -/
import Derived.Test.YthglcafppddedaaGreatDoorCards
import Derived.Test.YthglcafppddedaaGreatDoorTie
import Derived.Stop.LaidErr
import Derived.Stop.Joined
import Derived.Lay
import Derived.Test.YthglcafppddedaaGreatDoorPackTC
import Derived.Test.YthglcafppddedaaGreatDoorPackTF
import Derived.Test.YthglcafppddedaaGreatDoorPackVD

set_option linter.all false
namespace Go.Proofs.Ball
open Go.V Go.Proofs Go.RowKit
open Go.Proofs.YthglcafppddedaaGreatDoor (Rows.topBallastedRow Rows.laid_math_bits_deBruijn64tab)
abbrev Dj:List (String×DataW Unit):=Rows.topBallastedRow.laid
theorem g2:Tryz.prog.globalNamed "math/bits.deBruijn64tab"=some 2:=by kernel_rfl
theorem g2t:(Tryz.prog.globals[2]?).map (·.type)=some 440:=by kernel_rfl
theorem abw:Tryz.prog.cellsOf 440=64:=by kernel_rfl
theorem g3:Tryz.prog.globalNamed "internal/strconv.uint64pow10"=some 3:=by kernel_rfl
theorem g3t:(Tryz.prog.globals[3]?).map (·.type)=some 443:=by kernel_rfl
theorem abx:Tryz.prog.cellsOf 443=20:=by kernel_rfl
theorem aby:Tryz.prog.cellsOf 372=1:=by kernel_rfl
theorem TK{W:World}(h:laidMetH Tryz.prog Dj W):Lib.TabIs Tryz.prog W "math/bits.deBruijn64tab" .u8 Ct:=by
 have h:laidMet Tryz.prog Dj W:=h;exact Lib.tabIs_of_head g2 g2t Tryz.underlying440 Tryz.underlying5 c5 abw (laidMet.tail h)
theorem TL{W:World}(h:laidMetH Tryz.prog Dj W):Lib.TabIs Tryz.prog W "internal/strconv.uint64pow10" .u64 Lib.pow10Tab:=by
 have h:laidMet Tryz.prog Dj W:=h;exact Lib.tabIs_of_head g3 g3t Tryz.underlying443 Tryz.underlying372 aby abx (laidMet.tail (laidMet.tail h))
theorem yO{W:World}{n:String}{g:Nat}{c:Array Value}(hg:Tryz.prog.globalNamed n=some g)(h:W.var? Tryz.prog n=some c):∃t f,W.heap[g]?=some (.cells c t f):=by
 unfold World.var? at h;rw[hg]at h;simp only[Option.bind_some]at h;cases hh:W.heap[g]? with
 |none=>rw[hh]at h;cases h
 |some o=>
  rw[hh]at h;cases o with
  |cells c' t f=>cases h;exact⟨t,f,rfl⟩
  |_=>cases h
theorem nC{W:World}{g off:Nat}{c:Array Value}{t:TypeId}{f:Nat×Nat}{v:Value}(h:W.heap[g]?=some (.cells c t f))(hv:c[off]?=some v)(h1:v.oneCell'=true):cN W g off=some v:=by
 unfold cN;rw[h];simp only[bO h,hv,Option.filter,h1,if_true]
theorem FI{W:World}{g:Nat}{c:Array Value}{t:TypeId}{f:Nat×Nat}(h:W.heap[g]?=some (.cells c t f)):cN W g c.size=some DO:=by
 unfold cN;rw[h];simp[bO h]
theorem Gh(W:World)(h:laidMetH Tryz.prog Dj W):pU.le (iK W):=by
 intro B off v hv;obtain⟨t2,f2,Za⟩:=yO g2 (TK h);obtain⟨t3,f3,hc3⟩:=yO g3 (TL h)
 suffices q:cN W B off=some v/\v≠jh from Cd q.1 q.2
 unfold pU at hv
 match B,hv with
 |2,hv=>
  cases ht:Ct[off]? with
  |none=>simp[aM.Jw,aM.ends,ht]at hv
  |some n=>
   simp[aM.Jw,ht]at hv;subst hv;exact⟨nC Za (by simp[ht]) rfl,λe=>by cases e⟩
 |3,hv=>
  cases ht:Nat.blt off 20 with
  |true=>
   have cG:=cX ht;simp[aM.Jw,ht]at hv;subst hv;refine⟨nC hc3 ?_ rfl,λe=>by cases e⟩;simp[Lib.pow10Tab,cG]
  |false=>
   simp[aM.Jw,aM.ends,ht]at hv;obtain⟨rfl,rfl⟩:=hv;exact⟨FI hc3,λe=>by cases e⟩
 |0,hv=>simp[aM.Jw,aM.ends]at hv
 |1,hv=>simp[aM.Jw,aM.ends]at hv
 |n+4,hv=>simp[aM.Jw,aM.ends]at hv
theorem Tryz.own:ownKnob Tryz.prog.godebug=none:=by kernel_rfl
theorem Tryz.laidOut:laidOutB Tryz.prog=true:=by kernel_rfl
end Go.Proofs.Ball
