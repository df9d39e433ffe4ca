/- What ballasted_holds leans on, part RC. No condition. -/
import Derived.Test.YthglcafppddedaaGreatDoorPackTD

set_option linter.all false
namespace Go.Proofs.Ball.R15
open Go.V Go.Proofs Go.Proofs.Ball
set_option maxRecDepth 100000
noncomputable def fl:List FE:=[⟨9,_,Tryz.func9,Tryz.call9,rfl⟩,⟨15,_,Tryz.func15,Tryz.call15,rfl⟩,⟨17,_,Tryz.func17,Tryz.call17,rfl⟩,⟨18,_,Tryz.func18,Tryz.call18,rfl⟩,⟨19,_,Tryz.func19,Tryz.call19,rfl⟩,⟨20,_,Tryz.func20,Tryz.call20,rfl⟩,⟨21,_,Tryz.func21,Tryz.call21,rfl⟩,⟨22,_,Tryz.func22,Tryz.call22,rfl⟩,⟨23,_,Tryz.func23,Tryz.call23,rfl⟩,⟨24,_,Tryz.func24,Tryz.call24,rfl⟩,⟨47,_,Tryz.func47,Tryz.call47,rfl⟩,⟨50,_,Tryz.func50,Tryz.call50,rfl⟩,⟨51,_,Tryz.func51,Tryz.call51,rfl⟩,⟨64,_,Tryz.func64,Tryz.call64,rfl⟩,⟨67,_,Tryz.func67,Tryz.call67,rfl⟩,⟨68,_,Tryz.func68,Tryz.call68,rfl⟩,⟨76,_,Tryz.func76,Tryz.call76,rfl⟩,⟨77,_,Tryz.func77,Tryz.call77,rfl⟩,⟨78,_,Tryz.func78,Tryz.call78,rfl⟩,⟨79,_,Tryz.func79,Tryz.call79,rfl⟩,⟨80,_,Tryz.func80,Tryz.call80,rfl⟩,⟨81,_,Tryz.func81,Tryz.call81,rfl⟩,⟨82,_,Tryz.func82,Tryz.call82,rfl⟩,⟨83,_,Tryz.func83,Tryz.call83,rfl⟩,⟨84,_,Tryz.func84,Tryz.call84,rfl⟩,⟨85,_,Tryz.func85,Tryz.call85,rfl⟩,⟨86,_,Tryz.func86,Tryz.call86,rfl⟩,⟨87,_,Tryz.func87,Tryz.call87,rfl⟩,⟨88,_,Tryz.func88,Tryz.call88,rfl⟩,⟨90,_,Tryz.func90,Tryz.call90,rfl⟩,⟨92,_,Tryz.func92,Tryz.call92,rfl⟩,⟨93,_,Tryz.func93,Tryz.call93,rfl⟩,⟨94,_,Tryz.func94,Tryz.call94,rfl⟩,⟨95,_,Tryz.func95,Tryz.call95,rfl⟩,⟨96,_,Tryz.func96,Tryz.call96,rfl⟩,⟨97,_,Tryz.func97,Tryz.call97,rfl⟩,⟨98,_,Tryz.func98,Tryz.call98,rfl⟩,⟨99,_,Tryz.func99,Tryz.call99,rfl⟩,⟨100,_,Tryz.func100,Tryz.call100,rfl⟩,⟨116,_,Tryz.func116,Tryz.call116,rfl⟩,⟨117,_,Tryz.func117,Tryz.call117,rfl⟩,⟨119,_,Tryz.func119,Tryz.call119,rfl⟩,⟨120,_,Tryz.func120,Tryz.call120,rfl⟩,⟨122,_,Tryz.func122,Tryz.call122,rfl⟩,⟨124,_,Tryz.func124,Tryz.call124,rfl⟩,⟨142,_,Tryz.func142,Tryz.call142,rfl⟩,⟨144,_,Tryz.func144,Tryz.call144,rfl⟩,⟨145,_,Tryz.func145,Tryz.call145,rfl⟩,⟨146,_,Tryz.func146,Tryz.call146,rfl⟩,⟨147,_,Tryz.func147,Tryz.call147,rfl⟩,⟨149,_,Tryz.func149,Tryz.call149,rfl⟩,⟨161,_,Tryz.func161,Tryz.call161,rfl⟩,⟨162,_,Tryz.func162,Tryz.call162,rfl⟩,⟨163,_,Tryz.func163,Tryz.call163,rfl⟩,⟨164,_,Tryz.func164,Tryz.call164,rfl⟩,⟨165,_,Tryz.func165,Tryz.call165,rfl⟩,⟨166,_,Tryz.func166,Tryz.call166,rfl⟩,⟨167,_,Tryz.func167,Tryz.call167,rfl⟩,⟨168,_,Tryz.func168,Tryz.call168,rfl⟩,⟨169,_,Tryz.func169,Tryz.call169,rfl⟩,⟨170,_,Tryz.func170,Tryz.call170,rfl⟩,⟨171,_,Tryz.func171,Tryz.call171,rfl⟩,⟨172,_,Tryz.func172,Tryz.call172,rfl⟩,⟨173,_,Tryz.func173,Tryz.call173,rfl⟩,⟨174,_,Tryz.func174,Tryz.call174,rfl⟩,⟨175,_,Tryz.func175,Tryz.call175,rfl⟩,⟨176,_,Tryz.func176,Tryz.call176,rfl⟩,⟨177,_,Tryz.func177,Tryz.call177,rfl⟩,⟨178,_,Tryz.func178,Tryz.call178,rfl⟩,⟨179,_,Tryz.func179,Tryz.call179,rfl⟩,⟨180,_,Tryz.func180,Tryz.call180,rfl⟩,⟨181,_,Tryz.func181,Tryz.call181,rfl⟩,⟨182,_,Tryz.func182,Tryz.call182,rfl⟩,⟨183,_,Tryz.func183,Tryz.call183,rfl⟩,⟨184,_,Tryz.func184,Tryz.call184,rfl⟩,⟨185,_,Tryz.func185,Tryz.call185,rfl⟩,⟨186,_,Tryz.func186,Tryz.call186,rfl⟩,⟨187,_,Tryz.func187,Tryz.call187,rfl⟩,⟨200,_,Tryz.func200,Tryz.call200,rfl⟩,⟨201,_,Tryz.func201,Tryz.call201,rfl⟩,⟨202,_,Tryz.func202,Tryz.call202,rfl⟩,⟨203,_,Tryz.func203,Tryz.call203,rfl⟩,⟨204,_,Tryz.func204,Tryz.call204,rfl⟩,⟨205,_,Tryz.func205,Tryz.call205,rfl⟩,⟨220,_,Tryz.func220,Tryz.call220,rfl⟩,⟨223,_,Tryz.func223,Tryz.call223,rfl⟩,⟨224,_,Tryz.func224,Tryz.call224,rfl⟩,⟨225,_,Tryz.func225,Tryz.call225,rfl⟩,⟨226,_,Tryz.func226,Tryz.call226,rfl⟩,⟨227,_,Tryz.func227,Tryz.call227,rfl⟩,⟨228,_,Tryz.func228,Tryz.call228,rfl⟩,⟨229,_,Tryz.func229,Tryz.call229,rfl⟩,⟨231,_,Tryz.func231,Tryz.call231,rfl⟩,⟨234,_,Tryz.func234,Tryz.call234,rfl⟩,⟨239,_,Tryz.func239,Tryz.call239,rfl⟩,⟨240,_,Tryz.func240,Tryz.call240,rfl⟩,⟨242,_,Tryz.func242,Tryz.call242,rfl⟩,⟨243,_,Tryz.func243,Tryz.call243,rfl⟩,⟨244,_,Tryz.func244,Tryz.call244,rfl⟩,⟨245,_,Tryz.func245,Tryz.call245,rfl⟩,⟨246,_,Tryz.func246,Tryz.call246,rfl⟩,⟨247,_,Tryz.func247,Tryz.call247,rfl⟩,⟨248,_,Tryz.func248,Tryz.call248,rfl⟩,⟨249,_,Tryz.func249,Tryz.call249,rfl⟩,⟨250,_,Tryz.func250,Tryz.call250,rfl⟩,⟨251,_,Tryz.func251,Tryz.call251,rfl⟩,⟨252,_,Tryz.func252,Tryz.call252,rfl⟩,⟨253,_,Tryz.func253,Tryz.call253,rfl⟩,⟨254,_,Tryz.func254,Tryz.call254,rfl⟩,⟨255,_,Tryz.func255,Tryz.call255,rfl⟩,⟨260,_,Tryz.func260,Tryz.call260,rfl⟩,⟨261,_,Tryz.func261,Tryz.call261,rfl⟩,⟨272,_,Tryz.func272,Tryz.call272,rfl⟩,⟨273,_,Tryz.func273,Tryz.call273,rfl⟩,⟨277,_,Tryz.func277,Tryz.call277,rfl⟩,⟨278,_,Tryz.func278,Tryz.call278,rfl⟩,⟨281,_,Tryz.func281,Tryz.call281,rfl⟩,⟨282,_,Tryz.func282,Tryz.call282,rfl⟩,⟨283,_,Tryz.func283,Tryz.call283,rfl⟩,⟨284,_,Tryz.func284,Tryz.call284,rfl⟩,⟨285,_,Tryz.func285,Tryz.call285,rfl⟩,⟨286,_,Tryz.func286,Tryz.call286,rfl⟩,⟨287,_,Tryz.func287,Tryz.call287,rfl⟩,⟨288,_,Tryz.func288,Tryz.call288,rfl⟩,⟨289,_,Tryz.func289,Tryz.call289,rfl⟩,⟨290,_,Tryz.func290,Tryz.call290,rfl⟩,⟨291,_,Tryz.func291,Tryz.call291,rfl⟩,⟨292,_,Tryz.func292,Tryz.call292,rfl⟩,⟨293,_,Tryz.func293,Tryz.call293,rfl⟩,⟨294,_,Tryz.func294,Tryz.call294,rfl⟩,⟨295,_,Tryz.func295,Tryz.call295,rfl⟩,⟨296,_,Tryz.func296,Tryz.call296,rfl⟩,⟨297,_,Tryz.func297,Tryz.call297,rfl⟩,⟨298,_,Tryz.func298,Tryz.call298,rfl⟩,⟨320,_,Tryz.func320,Tryz.call320,rfl⟩,⟨323,_,Tryz.func323,Tryz.call323,rfl⟩,⟨324,_,Tryz.func324,Tryz.call324,rfl⟩,⟨325,_,Tryz.func325,Tryz.call325,rfl⟩,⟨326,_,Tryz.func326,Tryz.call326,rfl⟩]
def rL:List (Nat×List (Nat×RH)):=[(81,[(7,.perm [0,1,3,4,2,5,6,7] 4 [3,2])]),(172,[(7,.any)]),(240,[(6,.any)]),(82,[(3,.late 1 [0])]),(142,[(3,.late 1 [0])]),(161,[(5,.late 3 [2,1])]),(242,[(6,.late 15 [2,4,3])]),(243,[(10,.late 17 [2,5,3,4])]),(244,[(10,.late 17 [2,5,3,4])]),(246,[(3,.late 13 [2,3])]),(247,[(11,.late 15 [2,4,3]),(17,.late 15 [2,4,3]),(23,.late 15 [2,4,3])]),(249,[(1,.late 13 [2,3]),(8,.late 13 [2,3])]),(250,[(1,.late 13 [2,3]),(8,.late 13 [2,3]),(10,.late 13 [2,3]),(18,.late 13 [2,3]),(21,.late 13 [2,3])]),(253,[(3,.late 6 [3,5,4,2])]),(281,[(6,.late 21 [4,7,5,6])]),(294,[(6,.perm [0,1,2,3,4,5,7,8,9,6,10,11,12,13,14] 9 [0,6,7,8])])]
def vL:List (Nat×List (Nat×List (Nat×Nat×Nat))):=[(187,[(10,[(1,0,7)])]),(82,[(6,[(1,0,1)])]),(166,[(4,[(1,0,1),(6,0,1)])]),(172,[(7,[(0,0,1)])])]
def kL:List (Nat×List (Nat×List Nat)):=[(17,[(8,[1,2,3,4,27,28,29])]),(21,[(2,[1,2,4,12,13]),(5,[1,2,4,5,6,12,13,19,20,21])]),(22,[(4,[2,4,10,11])]),(24,[(3,[0,4,5,6,12,13,14])]),(47,[(3,[0,1,4,5,6])]),(51,[(8,[6,7,8,10,31,32,33])]),(83,[(9,[3,4,5,6,37,38,39])]),(97,[(7,[1,2,3,7,8,44,45,46]),(10,[1,2,3,7,8,10,11,44,45,46,53,54,55])]),(100,[(2,[1,2,6,17,18])]),(142,[(12,[1,2,4,8,9,47,48]),(17,[2,8,9,62,63,64]),(23,[8,9,81,82,83])]),(145,[(2,[0,2,4])]),(161,[(8,[2,4,5,6,7,8,13])]),(172,[(3,[0,2,3,4])]),(176,[(2,[0,1,4,7,8])]),(177,[(2,[0,1,4,7,8])]),(178,[(2,[0,1,2,3,8,9])]),(180,[(10,[1,2,3,4,5,50,51,52]),(22,[1,2,3,4,100,101,102]),(25,[1,2,3,4,8,9,100,101,102,107,108,109])]),(200,[(5,[1,2,4,5,6,7,8,28,29,30]),(16,[1,4,5,6,7,8,11,12,52,53,54])]),(203,[(2,[0,1,4,7,8])]),(205,[(2,[0,1,4,7,8])]),(220,[(2,[0,1,4,7,8])]),(223,[(4,[1,2,3,4,26,27,28]),(12,[1,2,3,4,49,50,51])]),(225,[(1,[0,1,2,8,9,10])]),(229,[(2,[0,3,4,5]),(5,[0,3,4,5,18,19,20])]),(231,[(2,[0,1,4,7,8])]),(242,[(1,[0,1,2,6]),(4,[0,1,2,6,7])]),(243,[(4,[0,6,7,8,9]),(8,[0,6,7,10])]),(244,[(5,[0,1,6,7,8,9])]),(246,[(2,[0,6,7])]),(247,[(3,[0,1,2,6,7,8]),(5,[0,1,2,6,7,8]),(14,[0,1,2,6,7,8,9]),(20,[0,1,2,6,7,8,10])]),(249,[(3,[0,1,8,9,10]),(3,[0,1,8,9,10]),(5,[0,1,8,9,10])]),(250,[(3,[0,1,8,9,10,11]),(5,[0,1,8,9,10,11]),(13,[0,1,8,9,10,11]),(13,[0,1,8,9,10,11]),(15,[0,1,8,9,10,11])]),(281,[(1,[0,2,3,8])]),(290,[(2,[0,2,5,6,7])]),(298,[(10,[0,3,4,5,7,48,49])]),(320,[(2,[0,1,4,7,8])])]
def sk:er:={sh:=λk=>[169,240,171,170,166,87,177,294,296,298,174,201,326,120,205,90,178,242].any (Nat.beq k),nw:=λk=>[324,174].any (Nat.beq k)}
def xh(ws:List WE)(is:List IE)(ys:List YE)(k:Nat):XH:={rh:=λid=>((fD rL k).bind λl=>fD l id).getD .draw,lh:=λ_=>.free,vh:=λid=>((fD vL k).bind λl=>fD l id).getD [],po:=λ_ _=>none,it:=itX ws is,oy:=Uy ys k,mp:=match Nat.beq k 97 with|true=>some 204832|false=>none,kl:=241,kp:=match Nat.beq k 81 with|true=>[0,1,5]|false=>[]}
def zo(k id:Nat):ZL:=match fD kL k with
 |some l=>match fD l id with
  |some aE=>.free aE []
  |none=>.free [] []
 |none=>.free [] []
def hz(ws:List WE)(is:List IE)(ys:List YE)(k:Nat):ZH:={x:=xh ws is ys k,zl:=zo k}
def TM(k:Nat):Option DZ:=match Nat.beq k 142 with
 |true=>some ⟨4,24,224,[.tmp 8,.tmp 9]⟩
 |false=>match Nat.beq k 180 with
  |true=>some ⟨1,12,253,[.tmp 2,.tmp 3,.tmp 4]⟩
  |false=>none
theorem Dk(ws:List WE)(is:List IE)(ys:List YE)(k:Nat)(z:DZ)(h:TM k=some z):(∀fn az d,xH fl k=some fn->Nat.ble az.length fn.ntmps=true->tu Tryz.prog Tryz.tt (CD Tryz.prog {sk with mp:=(hz ws is ys k).x.mp}) (nc Tryz.prog (qf 241)) fn z.np z.t3 z.k z.cs az d->DN k az d)/\∀ds,NY Tryz.prog z.k ds (λ_=>True) λ_ _ _=>False:=by
 unfold TM at h;split at h
 .rename_i e
  cases Nat.eq_of_beq_eq_true e;cases h;refine⟨λfn az d hf hn hb=>?_,Fl⟩;have e:fn=Tryz.f142:=by
   have h1:=(jV fl 142 fn hf).1;rw[Tryz.func142]at h1;exact(Option.some.inj h1).symm
  subst e;exact iV (np:=4) (t3:=24) (k:=224) Tryz.tok Tryz.mixed Tryz.func142 rfl Tryz.call142 (by rfl) (Nat.le_of_ble_eq_true hn) (by rfl) rfl rfl rfl rfl rfl rfl rfl rfl (by decide) hb
 split at h
 .rename_i e
  cases Nat.eq_of_beq_eq_true e;cases h;refine⟨λfn az d hf hn hb=>?_,L8⟩;have e:fn=Tryz.f180:=by
   have h1:=(jV fl 180 fn hf).1;rw[Tryz.func180]at h1;exact(Option.some.inj h1).symm
  subst e;exact iV (np:=1) (t3:=12) (k:=253) Tryz.tok Tryz.mixed Tryz.func180 rfl Tryz.call180 (by rfl) (Nat.le_of_ble_eq_true hn) (by rfl) rfl rfl rfl rfl rfl rfl rfl rfl (by decide) hb
 cases h
noncomputable def L(ws:List WE)(cs:List CE)(is:List IE)(ys:List YE):ZP:=uk Tryz.tt (CD Tryz.prog sk) (orW ws cs) (hz ws is ys) TM (xH fl) 40
theorem Dl(ws:List WE)(cs:List CE)(is:List IE)(ys:List YE):gz (CD Tryz.prog sk) (L ws cs is ys).cal (L ws cs is ys).lW:=
 kI (kl:=241) (hs:=hz ws is ys) Tryz.tok Tryz.mixed (jV fl) (λk az d h=>TC h) (λf k az v h=>by cases h) (λf k az xs h=>TD h) (λk az bs r h=>AH h) (Dk ws is ys) (λ_=>rfl) 40
theorem pM{ws:List WE}{cs:List CE}{is:List IE}{ys:List YE}{k:Nat}{az:List D}{d:D}(h:(L ws cs is ys).cal k az=some d):DN k az d:=(Dl ws cs is ys).den _ _ _ h
def tkL(on z:D):List D:=[.list 7 [[.str ⟨#[98,111,119]⟩,.int .i64 2,.int .i64 0,.int .i64 10,.list 0 [],.int .i64 1,.int .i64 1],[.str ⟨#[109,105,100]⟩,.int .i64 1,.int .i64 5,.int .i64 30,on,.int .i64 1,.int .i64 1],[.str ⟨#[115,116,101,114,110]⟩,.int .i64 1,.int .i64 25,.int .i64 40,.list 0 [],.int .i64 1,.int .i64 1]],.list 7 [[.str ⟨#[98,111,119]⟩,.int .i64 100,.int .i64 1000,.int .i64 1200,.int .i64 50,.int .i64 10,.int .i64 12],[.str ⟨#[109,105,100]⟩,.int .i64 400,.int .i64 500,.int .i64 600,.int .i64 100,.int .i64 4,.int .i64 5],[.str ⟨#[115,116,101,114,110]⟩,.int .i64 900,.int .i64 2000,.int .i64 2000,.int .i64 100,.int .i64 20,.int .i64 20]],.int .i64 200,.int .i64 800,.int .i64 0,.int .i64 60,.list 2 [[.str ⟨#[97]⟩,.tt],[.str ⟨#[98]⟩,.ff],[.str ⟨#[99]⟩,.ff],[.str ⟨#[100]⟩,.ff],[.str ⟨#[101]⟩,.ff]],.list 3 [[.int .i64 0,.int .i64 1,.bool false],[.int .i64 1,.int .i64 2,.ff],[.int .i64 0,.int .i64 2,.ff],[.int .i64 2,.int .i64 3,.ff],[.int .i64 3,.int .i64 4,.ff],[.int .i64 2,.int .i64 4,.ff]],.list 1 [[.int .i64 3],[.int .i64 5]],.list 2 [[.int .i64 3,.ff],[.int .i64 4,.ff],[.int .i64 3,.tt],[.int .i64 4,.tt]],.list 1 [[.list 0 []],[.list 1 [[.int .i64 3],[.int .i64 4]]],[z]]]
def Yd:List D:=tkL (.list 0 []) (.list 0 [])
def Ye:List D:=tkL (.list 1 [[.str ⟨#[98,111,119]⟩]]) (.list 0 [])
def Yf:List D:=tkL (.list 0 []) (.list 1 [[.int .i64 2]])
def Fc(a g:Int)(t:List D):List D:=t++[.list 1 [[.int .i64 a],[.int .i64 0],[.int .i64 0]],.int .i64 g,.dY 204832]
def Qm:List D:=Fc 0 0 Yd
def Zq:List D:=Fc 2 0 Ye
def TN:List D:=Fc 0 4 Yf
end Go.Proofs.Ball.R15
namespace Go.Proofs.Ball.R15
open Go.V Go.Proofs Go.Proofs.Ball
set_option maxRecDepth 100000
theorem Yg:(L [] [] [] []).cal 76 [.ff,.ff]=some (.agg Yd):=by kernel_rfl
theorem Yh:(L [] [] [] []).cal 76 [.tt,.ff]=some (.agg Ye):=by kernel_rfl
theorem Yi:(L [] [] [] []).cal 76 [.ff,.tt]=some (.agg Yf):=by kernel_rfl
theorem Yj:(L [] [] [] []).cal 97 [.agg Yd]=some (.b9 [.ro Qm,.int .i64 0]):=by kernel_rfl
theorem Yk:(L [] [] [] []).cal 97 [.agg Ye]=some (.b9 [.ro Zq,.int .i64 0]):=by kernel_rfl
theorem Yl:(L [] [] [] []).cal 97 [.agg Yf]=some (.b9 [.ro TN,.int .i64 0]):=by kernel_rfl
noncomputable def O1(s:List D)(t:Nat):Bool:=(List.range 8).all λn=>(List.range 3).all λj=>match(L [] [] [] []).cal 100 [.ro s,.int .i64 (Int.ofNat n),.int .i64 (Int.ofNat j)]with
 |some d=>ju d (.int .i64 (Int.ofNat (MJ t n j)))
 |none=>false
theorem AJ{s:List D}{t:Nat}(h:O1 s t=true)(n i:Nat)(hn:n<8)(hi:i<3):DN 100 [.ro s,.int .i64 n,.int .i64 i] (.int .i64 (MJ t n i)):=by
 have h1:=List.all_eq_true.1 (List.all_eq_true.1 h n (List.mem_range.2 hn)) i (List.mem_range.2 hi);split at h1
 .rename_i d hd
  have e:=so h1;rw[e]at hd;exact pM hd
 cases h1
theorem y1:O1 Qm 2361787146628732588105=true:=by kernel_rfl
theorem y2:O1 Zq 2380233890702710575177=true:=by kernel_rfl
theorem y3:O1 TN 1774947862178173325385=true:=by kernel_rfl
def we1:WE:=⟨Qm,2361787146628732588105,λn i hn hi=>AJ y1 n i hn hi⟩
def we2:WE:=⟨Zq,2380233890702710575177,λn i hn hi=>AJ y2 n i hn hi⟩
def we3:WE:=⟨TN,1774947862178173325385,λn i hn hi=>AJ y3 n i hn hi⟩
def ws:List WE:=[we1,we2,we3]
def cs:List CE:=[⟨76,[.ff,.ff],.agg Yd,pM Yg⟩,⟨76,[.tt,.ff],.agg Ye,pM Yh⟩,⟨76,[.ff,.tt],.agg Yf,pM Yi⟩,⟨97,[.agg Yd],.b9 [.ro Qm,.int .i64 0],pM Yj⟩,⟨97,[.agg Ye],.b9 [.ro Zq,.int .i64 0],pM Yk⟩,⟨97,[.agg Yf],.b9 [.ro TN,.int .i64 0],pM Yl⟩]
theorem Ym:(L [] [] [] []).cal 99 [.ro Qm]=some (.int .i64 7):=by kernel_rfl
theorem Yn:(L [] [] [] []).cal 99 [.ro TN]=some (.int .i64 7):=by kernel_rfl
def pN:List Nat->Nat->Nat
 |[],_=>0
 |x::_,0=>x
 |_::r,i+1=>pN r i
def abz(cf:Nat->List Nat)(F:List (Nat×List Nat))(a:List Nat):Bool:=(List.range F.length).all λh=>match F[h]? with
 |some p=>decide (h<pN a h/\F.take (pN a (h+1))=F.take (pN a h)++MH cf p/\pN a (h+1)<=F.length/\pN a (h+1)=pN a h+(cf p.1).length)
 |none=>false
theorem itR(x:WE)(F:List (Nat×List Nat))(a:List Nat)(cW:DN 99 [.ro x.S] (.int .i64 7))(h0:pN a 0=1)(Uv:F[0]?=some (7,[]))(hs:abz (OV x.t) F a=true)(nh:pN a F.length=F.length)
    (PF:(F.map Prod.fst).Nodup)(cG:∀p∈F,p.1<8/\p.2.length<=10)(hm:F.length<=8):IT 241 [.ro [.ro x.S]] (F.map GY):=
  X8 x.S (OV x.t) F (pN a) cW (λn hn=>x.can n hn) h0 Uv (λh p hp=>by
   have h1:=List.all_eq_true.1 hs h (List.mem_range.2 (List.getElem?_eq_some_iff.1 hp).1);rw[hp]at h1;exact of_decide_eq_true h1) nh PF cG hm
def F1:List (Nat×List Nat):=[(7,[]),(6,[0]),(5,[1]),(2,[0,2]),(0,[0,2,1])]
def F3:List (Nat×List Nat):=[(7,[]),(6,[0]),(5,[1])]
theorem i1:IT 241 [.ro [.ro Qm]] (F1.map GY):=itR we1 F1 [1,3,4,4,5,5] (pM Ym) rfl rfl (by decide+kernel) rfl (by decide+kernel) (by decide+kernel) (by decide)
theorem i3:IT 241 [.ro [.ro TN]] (F3.map GY):=itR we3 F3 [1,3,3,3] (pM Yn) rfl rfl (by decide+kernel) rfl (by decide+kernel) (by decide+kernel) (by decide)
def is:List IE:=[⟨241,[.ro [.ro Qm]],F1.map GY,i1⟩,⟨241,[.ro [.ro TN]],F3.map GY,i3⟩]
end Go.Proofs.Ball.R15
