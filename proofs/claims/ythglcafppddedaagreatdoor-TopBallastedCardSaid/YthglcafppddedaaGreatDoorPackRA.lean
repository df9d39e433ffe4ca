/- What ballasted_holds leans on, part RA. No condition. -/
import Derived.Test.YthglcafppddedaaGreatDoorPackTD

set_option linter.all false
namespace Go.Proofs.Ball.R13
open Go.V Go.Proofs Go.Proofs.Ball
set_option maxRecDepth 100000
noncomputable def fl:List FE:=[⟨13,_,Tryz.func13,Tryz.call13,rfl⟩,⟨47,_,Tryz.func47,Tryz.call47,rfl⟩,⟨49,_,Tryz.func49,Tryz.call49,rfl⟩,⟨50,_,Tryz.func50,Tryz.call50,rfl⟩,⟨51,_,Tryz.func51,Tryz.call51,rfl⟩,⟨52,_,Tryz.func52,Tryz.call52,rfl⟩,⟨53,_,Tryz.func53,Tryz.call53,rfl⟩,⟨54,_,Tryz.func54,Tryz.call54,rfl⟩,⟨55,_,Tryz.func55,Tryz.call55,rfl⟩,⟨56,_,Tryz.func56,Tryz.call56,rfl⟩,⟨57,_,Tryz.func57,Tryz.call57,rfl⟩,⟨58,_,Tryz.func58,Tryz.call58,rfl⟩,⟨59,_,Tryz.func59,Tryz.call59,rfl⟩,⟨60,_,Tryz.func60,Tryz.call60,rfl⟩,⟨61,_,Tryz.func61,Tryz.call61,rfl⟩,⟨62,_,Tryz.func62,Tryz.call62,rfl⟩,⟨87,_,Tryz.func87,Tryz.call87,rfl⟩,⟨142,_,Tryz.func142,Tryz.call142,rfl⟩,⟨143,_,Tryz.func143,Tryz.call143,rfl⟩,⟨144,_,Tryz.func144,Tryz.call144,rfl⟩,⟨145,_,Tryz.func145,Tryz.call145,rfl⟩,⟨146,_,Tryz.func146,Tryz.call146,rfl⟩,⟨147,_,Tryz.func147,Tryz.call147,rfl⟩,⟨148,_,Tryz.func148,Tryz.call148,rfl⟩,⟨149,_,Tryz.func149,Tryz.call149,rfl⟩,⟨150,_,Tryz.func150,Tryz.call150,rfl⟩,⟨151,_,Tryz.func151,Tryz.call151,rfl⟩,⟨152,_,Tryz.func152,Tryz.call152,rfl⟩,⟨153,_,Tryz.func153,Tryz.call153,rfl⟩,⟨154,_,Tryz.func154,Tryz.call154,rfl⟩,⟨155,_,Tryz.func155,Tryz.call155,rfl⟩,⟨156,_,Tryz.func156,Tryz.call156,rfl⟩,⟨175,_,Tryz.func175,Tryz.call175,rfl⟩,⟨177,_,Tryz.func177,Tryz.call177,rfl⟩,⟨223,_,Tryz.func223,Tryz.call223,rfl⟩,⟨224,_,Tryz.func224,Tryz.call224,rfl⟩,⟨225,_,Tryz.func225,Tryz.call225,rfl⟩,⟨226,_,Tryz.func226,Tryz.call226,rfl⟩,⟨227,_,Tryz.func227,Tryz.call227,rfl⟩,⟨228,_,Tryz.func228,Tryz.call228,rfl⟩,⟨229,_,Tryz.func229,Tryz.call229,rfl⟩,⟨230,_,Tryz.func230,Tryz.call230,rfl⟩,⟨231,_,Tryz.func231,Tryz.call231,rfl⟩,⟨232,_,Tryz.func232,Tryz.call232,rfl⟩,⟨233,_,Tryz.func233,Tryz.call233,rfl⟩,⟨234,_,Tryz.func234,Tryz.call234,rfl⟩,⟨272,_,Tryz.func272,Tryz.call272,rfl⟩,⟨273,_,Tryz.func273,Tryz.call273,rfl⟩,⟨274,_,Tryz.func274,Tryz.call274,rfl⟩,⟨275,_,Tryz.func275,Tryz.call275,rfl⟩,⟨277,_,Tryz.func277,Tryz.call277,rfl⟩,⟨278,_,Tryz.func278,Tryz.call278,rfl⟩,⟨320,_,Tryz.func320,Tryz.call320,rfl⟩]
def rL:List (Nat×List (Nat×RH)):=[(230,[(4,.Gn 9)]),(142,[(3,.late 1 [0])]),(153,[(5,.late 6 [5,3,4]),(16,.perm [0,1,2,4,5,3,6,7] 5 [4,3]),(19,.perm [0,1,2,4,5,3,6,7] 5 [4,3])]),(232,[(3,.late 13 [2,3])])]
def vL:List (Nat×List (Nat×List (Nat×Nat×Nat))):=[]
def kL:List (Nat×List (Nat×List Nat)):=[(47,[(3,[0,1,4,5,6])]),(49,[(6,[4,5,6,8,27,28])]),(51,[(8,[6,7,8,10,31,32,33])]),(54,[(8,[6,7,8,10,43]),(13,[6,7,8,10,59,60,61]),(18,[6,7,8,10,73,74]),(20,[6,7,8,10,73,74,80,81,82]),(31,[6,7,8,10,16,148,149,150]),(37,[6,7,8,10,16,19,164,165,166]),(44,[6,7,8,10,19,22,23]),(47,[6,7,8,10,19,22,23,189,190,191]),(52,[6,7,8,10,19,22,23,24,26,189,190,191,213,214,215])]),(56,[(7,[4,5,6,7,8]),(9,[4,5,6,7,8,36,37,38]),(12,[4,5,6,7,8,10,11,36,37,38])]),(57,[(6,[6,7,8,10,25,26,27]),(11,[6,7,8,10,25,26,27,39,40,41])]),(59,[(7,[6,7,8,10])]),(61,[(3,[0,1,4,5,6])]),(142,[(12,[1,2,4,8,9,47,48]),(17,[2,8,9,62,63,64]),(23,[8,9,81,82,83])]),(143,[(2,[0,1,4,5]),(5,[0,1,4,5,16,17,18])]),(145,[(2,[0,2,4])]),(150,[(6,[2,3,5,6,25,26,27])]),(151,[(2,[0,2,3])]),(152,[(3,[1,2,3,4,11,12,13])]),(153,[(3,[0,4,5,6]),(12,[0,4,5,6,52,53,54])]),(155,[(3,[0,6,7,8,15,16,17])]),(156,[(3,[0,3,4,5,6,7]),(7,[0,3,4,5,6,7,8])]),(177,[(2,[0,1,4,7,8])]),(223,[(4,[1,2,3,4,26,27,28]),(12,[1,2,3,4,49,50,51])]),(225,[(1,[0,1,2,8,9,10])]),(229,[(2,[0,3,4,5]),(5,[0,3,4,5,18,19,20])]),(231,[(2,[0,1,4,7,8])]),(232,[(1,[0,2,3])]),(274,[(4,[0,1,2,3,5,26,27,28])]),(320,[(2,[0,1,4,7,8])])]
def sk:er:={sh:=λk=>[87,151,153,177,230,232,274,275].any (Nat.beq k),nw:=λk=>false}
def xh(k:Nat):XH:={rh:=λid=>((fD rL k).bind λl=>fD l id).getD .draw,lh:=λ_=>.free,vh:=λid=>((fD vL k).bind λl=>fD l id).getD [],po:=λ_ _=>none,it:=itV,oy:=(λ_ _ _=>none) k,mp:=(λ_=>none) k}
def zo(k id:Nat):ZL:=match fD kL k with
 |some l=>match fD l id with
  |some aE=>.free aE []
  |none=>.free [] []
 |none=>.free [] []
def hz(k:Nat):ZH:={x:=xh k,zl:=zo k}
noncomputable def L(n:Nat):=(uk Tryz.tt (CD Tryz.prog sk) (Ux) hz (dzV) (xH fl) n).cal
theorem Dk(k:Nat)(z:DZ)(h:dzV k=some z):(∀fn az d,xH fl k=some fn->Nat.ble az.length fn.ntmps=true->tu Tryz.prog Tryz.tt (CD Tryz.prog {sk with mp:=(hz k).x.mp}) (nc Tryz.prog (qf 0)) fn z.np z.t3 z.k z.cs az d->DN k az d)/\∀ds,NY Tryz.prog z.k ds (λ_=>True) λ_ _ _=>False:=by
 unfold dzV at h;split at h
 .rename_i e
  cases Nat.eq_of_beq_eq_true e;cases h;refine⟨λfn az d hf hn hb=>?_,Fl⟩;have e:fn=Tryz.f142:=by
   have h1:=(jV fl 142 fn hf).1;rw[Tryz.func142]at h1;exact(Option.some.inj h1).symm
  subst e;exact iV (np:=4) (t3:=24) (k:=224) Tryz.tok Tryz.mixed Tryz.func142 rfl Tryz.call142 (by rfl) (Nat.le_of_ble_eq_true hn) (by rfl) rfl rfl rfl rfl rfl rfl rfl rfl (by decide) hb
 cases h
theorem Dl(n:Nat){k:Nat}{az:List D}{d:D}(h:L n k az=some d):DN k az d:=
 (kI (kl:=0) (hs:=hz) Tryz.tok Tryz.mixed (jV fl) (λk az d h=>AF h) (λf k az v h=>by cases h) (λf k az xs h=>Tz h) (λk az bs r h=>by cases h) (Dk) (λ_=>rfl) n).den _ _ _ h
theorem t:L 40 13 []=some (.bool true):=by kernel_rfl
theorem den:DN 13 [] (.bool true):=Dl 40 t
end Go.Proofs.Ball.R13
