/- What ballasted_holds leans on, part RB. No condition. -/
import Derived.Test.YthglcafppddedaaGreatDoorPackTC

set_option linter.all false
namespace Go.Proofs.Ball.R14
open Go.V Go.Proofs Go.Proofs.Ball
set_option maxRecDepth 100000
noncomputable def fl:List FE:=[⟨8,_,Tryz.func8,Tryz.call8,rfl⟩,⟨14,_,Tryz.func14,Tryz.call14,rfl⟩,⟨17,_,Tryz.func17,Tryz.call17,rfl⟩,⟨18,_,Tryz.func18,Tryz.call18,rfl⟩,⟨19,_,Tryz.func19,Tryz.call19,rfl⟩,⟨20,_,Tryz.func20,Tryz.call20,rfl⟩,⟨21,_,Tryz.func21,Tryz.call21,rfl⟩,⟨22,_,Tryz.func22,Tryz.call22,rfl⟩,⟨47,_,Tryz.func47,Tryz.call47,rfl⟩,⟨63,_,Tryz.func63,Tryz.call63,rfl⟩,⟨64,_,Tryz.func64,Tryz.call64,rfl⟩,⟨65,_,Tryz.func65,Tryz.call65,rfl⟩,⟨66,_,Tryz.func66,Tryz.call66,rfl⟩,⟨67,_,Tryz.func67,Tryz.call67,rfl⟩,⟨68,_,Tryz.func68,Tryz.call68,rfl⟩,⟨69,_,Tryz.func69,Tryz.call69,rfl⟩,⟨70,_,Tryz.func70,Tryz.call70,rfl⟩,⟨71,_,Tryz.func71,Tryz.call71,rfl⟩,⟨72,_,Tryz.func72,Tryz.call72,rfl⟩,⟨73,_,Tryz.func73,Tryz.call73,rfl⟩,⟨74,_,Tryz.func74,Tryz.call74,rfl⟩,⟨75,_,Tryz.func75,Tryz.call75,rfl⟩,⟨84,_,Tryz.func84,Tryz.call84,rfl⟩,⟨85,_,Tryz.func85,Tryz.call85,rfl⟩,⟨86,_,Tryz.func86,Tryz.call86,rfl⟩,⟨87,_,Tryz.func87,Tryz.call87,rfl⟩,⟨88,_,Tryz.func88,Tryz.call88,rfl⟩,⟨92,_,Tryz.func92,Tryz.call92,rfl⟩,⟨93,_,Tryz.func93,Tryz.call93,rfl⟩,⟨94,_,Tryz.func94,Tryz.call94,rfl⟩,⟨95,_,Tryz.func95,Tryz.call95,rfl⟩,⟨96,_,Tryz.func96,Tryz.call96,rfl⟩,⟨157,_,Tryz.func157,Tryz.call157,rfl⟩,⟨158,_,Tryz.func158,Tryz.call158,rfl⟩,⟨159,_,Tryz.func159,Tryz.call159,rfl⟩,⟨160,_,Tryz.func160,Tryz.call160,rfl⟩,⟨161,_,Tryz.func161,Tryz.call161,rfl⟩,⟨162,_,Tryz.func162,Tryz.call162,rfl⟩,⟨176,_,Tryz.func176,Tryz.call176,rfl⟩,⟨177,_,Tryz.func177,Tryz.call177,rfl⟩,⟨235,_,Tryz.func235,Tryz.call235,rfl⟩,⟨236,_,Tryz.func236,Tryz.call236,rfl⟩,⟨237,_,Tryz.func237,Tryz.call237,rfl⟩]
def rL:List (Nat×List (Nat×RH)):=[(69,[(10,.perm [0,1,2,3,4,5,7,8,9,10,11,12,6,14,13,15,16,17] 12 [7,11,10,9,13,8,6]),(11,.perm [0,1,2,3,4,5,7,8,9,10,11,12,6,14,13,15,16,17] 12 [7,11,10,9,13,8,6])]),(161,[(5,.late 3 [2,1])])]
def vL:List (Nat×List (Nat×List (Nat×Nat×Nat))):=[]
def kL:List (Nat×List (Nat×List Nat)):=[(8,[(16,[3,4,6,7,11,12,13,61,66,67,68]),(21,[3,4,6,7,11,12,13,16,61,66,67,68,80,81])]),(17,[(8,[1,2,3,4,27,28,29])]),(21,[(2,[1,2,4,12,13]),(5,[1,2,4,5,6,12,13,19,20,21])]),(22,[(4,[2,4,10,11])]),(47,[(3,[0,1,4,5,6])]),(69,[(7,[4,5,6,8,33,34,35])]),(71,[(10,[4,8,9,12,13,14,15,42,43,44])]),(75,[(3,[0,1,4,5,6])]),(158,[(2,[2,3,4,6,12,13]),(5,[2,3,4,6,7,8,12,13,19,20,21])]),(161,[(8,[2,4,5,6,7,8,13])]),(176,[(2,[0,1,4,7,8])]),(177,[(2,[0,1,4,7,8])]),(235,[(2,[1,2,6,10,11,12])])]
def sk:er:={sh:=λk=>[87,177].any (Nat.beq k),nw:=λk=>false}
def xh(k:Nat):XH:={rh:=λid=>((fD rL k).bind λl=>fD l id).getD .draw,lh:=λ_=>.free,vh:=λid=>((fD vL k).bind λl=>fD l id).getD [],po:=λ_ _=>none,it:=itA,oy:=(λ_ _ _=>none) k,mp:=(λ_=>none) k}
def zo(k id:Nat):ZL:=match fD kL k with
 |some l=>match fD l id with
  |some aE=>.free aE []
  |none=>.free [] []
 |none=>.free [] []
def hz(k:Nat):ZH:={x:=xh k,zl:=zo k}
noncomputable def L(n:Nat):=(uk Tryz.tt (CD Tryz.prog sk) (Ux) hz (λ_=>none) (xH fl) n).cal
theorem Dl(n:Nat){k:Nat}{az:List D}{d:D}(h:L n k az=some d):DN k az d:=
 (kI (kl:=0) (hs:=hz) Tryz.tok Tryz.mixed (jV fl) (λk az d h=>AF h) (λf k az v h=>by cases h) (λf k az xs h=>Tx h) (λk az bs r h=>by cases h) (λk z h=>by cases h) (λ_=>rfl) n).den _ _ _ h
theorem t:L 40 14 []=some (.bool true):=by kernel_rfl
theorem den:DN 14 [] (.bool true):=Dl 40 t
end Go.Proofs.Ball.R14
