/- Which strings are names, in the program; Names, in the reference; Whether a tank's name stands ahead of it, in the program; Nets as they are told, and their errors; Check, in the program; Check, in the reference; Whether a list has a number; what a function does that recovers; A net that is looked at: what is known of it; A net is looked at; A net is looked at, and wanted tanks; What is joined, and how gas spreads: the least closed set, and the greatest one. No condition. -/
import Derived.Laws.RangeAny
import Derived.Laws.Strings
import Derived.Test.YtfdflbdnjimfaaaPackTA
import Derived.Test.YtfdflbdnjimfaaaPackUJ

namespace Go.Proofs.Vent
open Go.V Go.Proofs

def letterB (c:Int):Bool:=decide (c ≥ 97) && decide (c≤122)
def digitB (c:Int):Bool:=decide (c ≥ 48) && decide (c≤57)
def nameC (i:Nat) (c:Int):Bool:=letterB c || (digitB c && !(i==0))
def nameFrom (s:ByteArray):Nat→Nat→Bool
 | 0,_=>true
 | f+1,i=>match s[i]? with | some c=>nameC i c.toNat && nameFrom s f (i+1) | none=>true
def nameB (s:ByteArray):Bool:=nameFrom s s.size 0 && (decide (1≤s.size) && decide (s.size≤16))

theorem rune_byte (s:ByteArray) (pos c wd:Nat) (h:pos<s.size) (hd:Utf8.decode s pos=(c,wd)):∃ b:UInt8,s[pos]?=some b∧((c=b.toNat∧wd=1)∨(128≤c∧128≤b.toNat)):=by
 refine ⟨s[pos]'h,by simp [h],?_⟩
 by_cases ha:(s[pos]'h).toNat<128
 ·rw [decode_ascii s pos h ha] at hd
  cases hd
  exact .inl ⟨rfl,rfl⟩
 ·have:=decode_high s pos h (by omega)
  rw [hd] at this
  exact .inr ⟨this.1,by omega⟩

theorem nameC_high (i:Nat) (c:Int) (h:128≤c):nameC i c=false:=by
 have h1:¬ c≤122:=by omega
 have h2:¬ c≤57:=by omega
 simp [nameC,letterB,digitB,h1,h2]

theorem str_empty (s:ByteArray):(s.toList==(⟨#[]⟩:ByteArray).toList)=decide (s.size=0):=by
 have h1:(⟨#[]⟩:ByteArray).toList=[]:=by rw [ByteArray.toList_eq]
 have h2:s.toList=s.data.toList:=ByteArray.toList_eq s
 rw [h1,h2]
 obtain ⟨⟨l⟩⟩:=s
 cases l with
 | nil=>rfl
 | cons a l=>simp [ByteArray.size]

theorem den49 (s:ByteArray):DN 49 [.str s] (.bool (nameB s)):=by
 refine mk Try.func49 Try.call49 rfl rfl ?_
 refine ⟨[0,8],1,[],fun σ=>∃ (pos f:Nat),pos≤s.size∧s.size=pos+f∧nameFrom s s.size 0=nameFrom s f pos∧σ=⟨[(0,.str s),(8,.sit 0)],[.siter false s pos],.non⟩,
  fun σ=>s.size - (match σ.boxes with | [.siter _ _ p]=>p | _=>0),rfl,⟨rfl,rfl⟩,⟨0,s.size,Nat.zero_le _,(Nat.zero_add _).symm,rfl,rfl⟩,?_⟩
 rintro σ ⟨pos,f,hp,hf,hn,rfl⟩
 refine ⟨fun h=>?_,fun h=>?_⟩
 ·obtain ⟨c,wd,hd⟩:∃ c wd,Utf8.decode s pos=(c,wd):=⟨_,_,rfl⟩
  obtain ⟨b,hb,hcb⟩:=rune_byte s pos c wd h hd
  refine ⟨c,wd,hd,?_⟩
  obtain ⟨g,rfl⟩:∃ g,f=g+1:=⟨f - 1,by omega⟩
  have hn':nameFrom s s.size 0=(nameC pos b.toNat && nameFrom s g (pos+1)):=by rw [hn,nameFrom,hb]
  have bad:nameC pos c=false→nameB s=false:=fun hc=>by
   have:nameC pos b.toNat=false:=by
    rcases hcb with ⟨h1,_⟩ | ⟨_,h1⟩
    ·rw [← h1];exact hc
    ·exact nameC_high _ _ (by omega)
   unfold nameB
   rw [hn',this];rfl
  have good:nameC pos c=true→(nameFrom s s.size 0=nameFrom s g (pos+1))∧wd=1:=fun hc=>by
   rcases hcb with ⟨h1,h2⟩ | ⟨h1,_⟩
   ·rw [hn',← h1,hc];exact ⟨rfl,h2⟩
   ·rw [nameC_high _ _ (by omega)] at hc;cases hc
  have go:(nameFrom s s.size 0=nameFrom s g (pos+1))∧wd=1→(∃ (pos' f:Nat),pos'≤s.size∧s.size=pos'+f∧nameFrom s s.size 0=nameFrom s f pos'∧(⟨[(0,.str s),(8,.sit 0)],[.siter false s (pos+wd)],.non⟩:St)=⟨[(0,.str s),(8,.sit 0)],[.siter false s pos'],.non⟩)∧s.size - (pos+wd)<s.size - pos:=by
   rintro ⟨h1,rfl⟩
   exact ⟨⟨pos+1,g,by omega,by omega,h1,rfl⟩,by omega⟩
  have hres:nameB s=false→some (D.bool false)=some (D.bool (nameB s)):=fun h=>by rw [h]
  have e0:(((pos:Int))==0)=(pos==0):=by
   cases pos <;> simp <;> omega
  have neg:∀ {x:Bool},(!x)=true→x=false:=fun {x} h=>by cases x <;> trivial
  have neg':∀ {x:Bool},(!x)=false→x=true:=fun {x} h=>by cases x <;> trivial
  have cases':∀ x1 x2 x3 x4 x5:Bool,decide ((c:Int) ≥ 97)=x1→decide ((c:Int)≤122)=x2→decide ((c:Int) ≥ 48)=x3→decide ((c:Int)≤57)=x4→(((pos:Int))==0)=x5→nameC pos c=((x1 && x2) || ((x3 && x4) && !x5)):=by
   rintro _ _ _ _ _ rfl rfl rfl rfl rfl
   rw [e0]
   rfl
  refine ⟨fun h1=>?_,fun h1=>?_⟩
  ·refine ⟨fun h2=>?_,fun h2=>?_⟩
   ·refine ⟨fun h3=>?_,fun h3=>?_⟩
    ·refine ⟨fun h4=>?_,fun h4=>?_⟩
     ·exact hres (bad (by rw [cases' _ _ _ _ _ h1 (neg h3) h2 (neg h4) rfl];rfl))
     ·refine ⟨fun h5=>?_,fun h5=>?_⟩
      ·exact hres (bad (by rw [cases' _ _ _ _ _ h1 (neg h3) h2 (neg' h4) h5];rfl))
      ·exact ⟨⟨rfl,rfl⟩,go (good (by rw [cases' _ _ _ _ _ h1 (neg h3) h2 (neg' h4) h5];rfl))⟩
    ·exact ⟨⟨rfl,rfl⟩,go (good (by rw [cases' _ _ _ _ _ h1 (neg' h3) h2 rfl rfl];rfl))⟩
   ·have h1:=of_decide_eq_true h1
    have h2:=of_decide_eq_false h2
    omega
  ·refine ⟨fun h2=>?_,fun h2=>?_⟩
   ·refine ⟨fun h4=>?_,fun h4=>?_⟩
    ·exact hres (bad (by rw [cases' _ _ _ _ _ h1 rfl h2 (neg h4) rfl];rfl))
    ·refine ⟨fun h5=>?_,fun h5=>?_⟩
     ·exact hres (bad (by rw [cases' _ _ _ _ _ h1 rfl h2 (neg' h4) h5];rfl))
     ·exact ⟨⟨rfl,rfl⟩,go (good (by rw [cases' _ _ _ _ _ h1 rfl h2 (neg' h4) h5];rfl))⟩
   ·exact hres (bad (by rw [cases' _ _ _ _ _ h1 rfl h2 rfl rfl];rfl))
 ·have hf0:f=0:=by omega
  subst hf0
  have hn:nameFrom s s.size 0=true:=hn
  have e1:(s.toList==(⟨#[]⟩:ByteArray).toList)=decide (s.size=0):=str_empty s
  refine ⟨fun h1=>?_,fun h1=>?_⟩
  ·show some (D.bool (decide ((s.size:Int)≤16)))=some (D.bool _)
   have h1:(!(s.toList==(⟨#[]⟩:ByteArray).toList))=true:=h1
   rw [e1] at h1
   have h2:decide (1≤s.size)=true:=by
    apply decide_eq_true
    have:¬ s.size=0:=by simpa using h1
    omega
   have h3:decide ((s.size:Int)≤16)=decide (s.size≤16):=by
    apply decide_eq_decide.2;omega
   rw [nameB,hn,h2,h3];rfl
  ·show some (D.bool false)=some (D.bool _)
   have h1:(!(s.toList==(⟨#[]⟩:ByteArray).toList))=false:=h1
   rw [e1] at h1
   have h2:decide (1≤s.size)=false:=by
    apply decide_eq_false
    have:s.size=0:=by simpa using h1
    omega
   rw [nameB,hn,h2];rfl

end Go.Proofs.Vent

namespace Go.Proofs.Vent
open Go.V Go.Proofs

def inR (n lo hi:Int):Bool:=decide (n ≥ lo) && decide (n≤hi)

theorem den100 (n lo hi:Int):DN 100 [.int .i64 n,.int .i64 lo,.int .i64 hi] (.bool (inR n lo hi)):=by
 refine mk Try.func100 Try.call100 rfl rfl ?_
 refine ⟨fun h=>?_,fun h=>?_⟩
 ·show some (D.bool _)=some (D.bool _)
  simp [inR,h]
 ·show some (D.bool _)=some (D.bool _)
  simp [inR,h]


def sameS (a b:ByteArray):Bool:=a.toList==b.toList
def freshE (ts:List Tk) (s:ByteArray):Int:=match nameB s with | false=>6 | true=>match ts.any fun x=>sameS x.name s with | true=>5 | false=>0



theorem den82 (s:ByteArray):DN 82 [.str s] (.bool (nameB s)):=by
 refine mk Try.func82 Try.call82 rfl rfl ?_
 have hbad:nameB s=false→some (D.bool false)=some (D.bool (nameB s)):=fun h=>by rw [h]
 refine ⟨_,rfl,_,den100 s.size 1 16,?_⟩
 refine ⟨fun h1=>?_,fun h1=>?_⟩
 ·have h1:(!(inR s.size 1 16))=true:=h1
  refine hbad ?_
  have:(decide (1≤s.size) && decide (s.size≤16))=false:=by
   simp [inR] at h1 ⊢;omega
  rw [nameB,this,Bool.and_false]
 have h1:(!(inR s.size 1 16))=false:=h1
 have hsz:1≤s.size∧s.size≤16:=by simp [inR] at h1;omega
 obtain ⟨n,hn⟩:∃ n,s.size=n+1:=⟨s.size - 1,by omega⟩
 have hsz2:(decide (1≤s.size) && decide (s.size≤16))=true:=by simp;omega
 have hname:nameB s=nameFrom s s.size 0:=by rw [nameB,hsz2,Bool.and_true]
 have hb:s[0]?=some (s[0]'(by omega)):=by simp
 obtain ⟨b,hb'⟩:∃ b,s[0]'(by omega)=b:=⟨_,rfl⟩
 rw [hb'] at hb
 have hfst:nameFrom s s.size 0=(nameC 0 b.toNat && nameFrom s n 1):=by rw [hn,nameFrom,hb]
 have hC0:nameC 0 b.toNat=letterB b.toNat:=by simp [nameC]
 refine ⟨by decide,b,hb,?_⟩
 refine ⟨fun h2=>?_,fun h2=>?_⟩
 ·have h2:(b.toNat:Int)<97:=of_decide_eq_true h2
  refine hbad ?_
  have:letterB b.toNat=false:=by simp [letterB];omega
  rw [hname,hfst,hC0,this];rfl
 have h2:¬ (b.toNat:Int)<97:=of_decide_eq_false h2
 refine ⟨by decide,b,hb,?_⟩
 refine ⟨fun h3=>?_,fun h3=>?_⟩
 ·have h3:(b.toNat:Int) > 122:=of_decide_eq_true h3
  refine hbad ?_
  have:letterB b.toNat=false:=by simp [letterB];omega
  rw [hname,hfst,hC0,this];rfl
 have h3:¬ (b.toNat:Int) > 122:=of_decide_eq_false h3
 have hl0:letterB b.toNat=true:=by simp [letterB];omega
 have hst:nameB s=nameFrom s n 1:=by rw [hname,hfst,hC0,hl0];rfl
 refine ⟨[0,3],0,[],fun σ=>∃ i f:Nat,1≤i∧i+f=s.size∧nameB s=nameFrom s f i∧σ=⟨[(0,.str s),(3,.int .i64 i)],[],.non⟩,fun σ=>(1000 - slotI 3 σ).toNat,rfl,⟨rfl,rfl⟩,⟨1,n,Nat.le_refl _,by omega,hst,rfl⟩,?_⟩
 rintro σ ⟨i,f,hi,hif,hnm,rfl⟩
 refine ⟨fun h4=>?_,fun h4=>?_⟩
 ·have h4:(i:Int)<s.size:=of_decide_eq_true h4
  have hi':i<s.size:=by omega
  obtain ⟨f,rfl⟩:∃ f',f=f'+1:=⟨f - 1,by omega⟩
  obtain ⟨c,hc⟩:∃ c,s[i]'hi'=c:=⟨_,rfl⟩
  have hg:s[((i:Int)).toNat]?=some c:=by rw [Int.toNat_natCast,← hc];simp [hi']
  have hgi:s[i]?=some c:=hg
  rw [nameFrom,hgi] at hnm
  have hnm:nameB s=(nameC i c.toNat && nameFrom s f (i+1)):=hnm
  have hCi:nameC i c.toNat=(letterB c.toNat || digitB c.toNat):=by
   have:(i==0)=false:=by simp;omega
   simp [nameC,this]
  have bad:nameC i c.toNat=false→some (D.bool false)=some (D.bool (nameB s)):=fun h=>hbad (by rw [hnm,h];rfl)
  have good:nameC i c.toNat=true→(∃ i' f':Nat,1≤i'∧i'+f'=s.size∧nameB s=nameFrom s f' i'∧(⟨[(0,.str s),(3,.int .i64 ((i:Int)+1))],[],.non⟩:St)=⟨[(0,.str s),(3,.int .i64 i')],[],.non⟩)∧(1000 - ((i:Int)+1)).toNat<(1000 - (i:Int)).toNat:=fun h =>
   ⟨⟨i+1,f,by omega,by omega,by rw [hnm,h];rfl,rfl⟩,by omega⟩
  have neg:∀ {x:Bool},(!x)=true→x=false:=fun {x} h=>by cases x <;> trivial
  have neg':∀ {x:Bool},(!x)=false→x=true:=fun {x} h=>by cases x <;> trivial
  have cs:∀ x1 x2 x3 x4:Bool,decide ((c.toNat:Int) ≥ 97)=x1→decide ((c.toNat:Int)≤122)=x2→decide ((c.toNat:Int) ≥ 48)=x3→decide ((c.toNat:Int)≤57)=x4→nameC i c.toNat=((x1 && x2) || (x3 && x4)):=by
   rintro _ _ _ _ rfl rfl rfl rfl
   rw [hCi];rfl
  refine Or.inl ⟨by kernel_rfl,?_⟩
  refine ⟨by omega,c,hg,?_⟩
  refine ⟨fun g1=>?_,fun g1=>?_⟩
  ·refine ⟨by omega,c,hg,?_⟩
   refine ⟨by omega,c,hg,?_⟩
   refine ⟨fun g3=>?_,fun g3=>?_⟩
   ·refine ⟨by omega,c,hg,?_⟩
    refine ⟨fun g2=>?_,fun g2=>?_⟩
    ·refine ⟨fun g4=>?_,fun g4=>?_⟩
     ·exact bad (by rw [cs _ _ _ _ g1 (neg g2) g3 (neg g4)];rfl)
     ·refine ⟨_,wrap64 (by omega) (by omega),?_⟩
      exact ⟨⟨rfl,rfl⟩,good (by rw [cs _ _ _ _ g1 (neg g2) g3 (neg' g4)];rfl)⟩
    ·refine ⟨_,wrap64 (by omega) (by omega),?_⟩
     exact ⟨⟨rfl,rfl⟩,good (by rw [cs _ _ _ _ g1 (neg' g2) g3 rfl];rfl)⟩
   ·have g1:=of_decide_eq_true g1
    have g3:=of_decide_eq_false g3
    omega
  ·refine ⟨by omega,c,hg,?_⟩
   refine ⟨fun g3=>?_,fun g3=>?_⟩
   ·refine ⟨by omega,c,hg,?_⟩
    refine ⟨fun g4=>?_,fun g4=>?_⟩
    ·exact bad (by rw [cs _ _ _ _ g1 rfl g3 (neg g4)];rfl)
    ·refine ⟨_,wrap64 (by omega) (by omega),?_⟩
     exact ⟨⟨rfl,rfl⟩,good (by rw [cs _ _ _ _ g1 rfl g3 (neg' g4)];rfl)⟩
   ·exact bad (by rw [cs _ _ _ _ g1 rfl g3 rfl];rfl)
 ·have h4:¬ (i:Int)<s.size:=of_decide_eq_false h4
  have hf0:f=0:=by omega
  subst hf0
  show some (D.bool true)=some (D.bool (nameB s))
  rw [hnm];rfl

def encS (s:ByteArray):List D:=[.str s]
theorem den83 (l:List ByteArray) (s:ByteArray) (hl:l.length<1000):DN 83 [.list 1 (l.map encS),.str s] (.int .i64 (findI (fun x=>sameS x s) l 0)):=by
 refine mk Try.func83 Try.call83 rfl rfl ?_
 refine ⟨[0,1,5],0,[],fun σ=>∃ i:Nat,i≤l.length∧findI (fun x=>sameS x s) l 0=findI (fun x=>sameS x s) (l.drop i) i∧σ=⟨[(0,.list 1 (l.map encS)),(1,.str s),(5,.int .i64 i)],[],.non⟩,fun σ=>(1000 - slotI 5 σ).toNat,rfl,⟨rfl,rfl⟩,⟨0,Nat.zero_le _,rfl,rfl⟩,?_⟩
 rintro σ ⟨i,hi,hf,rfl⟩
 refine ⟨fun h1=>?_,fun h1=>?_⟩
 ·have h1:=of_decide_eq_true h1
  rw [List.length_map] at h1
  have hi':i<l.length:=by omega
  have hrow:(l.map encS)[((i:Int)).toNat]?=some (encS l[i]):=by simp [hi']
  have hdrop:l.drop i=l[i]::l.drop (i+1):=List.drop_eq_getElem_cons hi'
  refine ⟨by omega,_,hrow,?_⟩
  refine ⟨fun h2=>?_,fun h2=>?_⟩
  ·have h2:sameS l[i] s=true:=h2
   show some (D.int .i64 (i:Int))=some (D.int .i64 (findI (fun x=>sameS x s) l 0))
   rw [hf,hdrop,findI,h2]
  ·have h2:sameS l[i] s=false:=h2
   refine ⟨_,wrap64 (by omega) (by omega),?_⟩
   refine ⟨⟨rfl,rfl⟩,⟨i+1,hi',?_,rfl⟩,?_⟩
   ·rw [hf,hdrop,findI,h2];rfl
   ·show (1000 - ((i:Int)+1)).toNat<(1000 - (i:Int)).toNat
    omega
 ·have h1:=of_decide_eq_false h1
  rw [List.length_map] at h1
  show some (D.int .i64 (-1))=some (D.int .i64 (findI (fun x=>sameS x s) l 0))
  rw [hf,List.drop_of_length_le (by omega)]
  rfl

theorem den53 (ts:List Tk) (s:ByteArray) (hl:ts.length<1000):DN 53 [.str s,.list 1 ((ts.map (·.name)).map encS)] (.int .i64 (freshE ts s)):=by
 refine mk Try.func53 Try.call53 rfl rfl ?_
 have hany:=findI_any (fun x=>sameS x s) (ts.map (·.name)) 0 (Int.le_refl 0)
 rw [List.any_map] at hany
 refine ⟨_,rfl,_,den82 s,?_⟩
 refine ⟨fun h1=>?_,fun h1=>?_⟩
 ·have h1:nameB s=false:=by simpa using h1
  show some (D.int .i64 6)=some (D.int .i64 (freshE ts s))
  rw [freshE,h1]
 have h1:nameB s=true:=by simpa using h1
 refine ⟨_,rfl,_,den83 (ts.map (·.name)) s (by simpa using hl),?_⟩
 refine ⟨fun h2=>?_,fun h2=>?_⟩
 ·have h2:(ts.any fun x=>sameS x.name s)=true:=hany.symm.trans h2
  show some (D.int .i64 5)=some (D.int .i64 (freshE ts s))
  rw [freshE,h1,h2]
 ·have h2:(ts.any fun x=>sameS x.name s)=false:=hany.symm.trans h2
  show some (D.int .i64 0)=some (D.int .i64 (freshE ts s))
  rw [freshE,h1,h2]

end Go.Proofs.Vent

namespace Go.Proofs.Vent
open Go.V Go.Proofs

theorem den51 (y x:Tk):DN 51 [.agg y.enc,.ro x.enc] (.bool (sameS y.name x.name)):=by
 refine mk Try.func51 Try.call51 rfl rfl ?_
 rfl

theorem den80 (bs:List Tk) (x:Tk) (hl:bs.length<1000):DN 80 [.list 2 (bs.map Tk.enc),.clo (.func 51) [] [.ro x.enc]] (.int .i64 (findI (fun y=>sameS y.name x.name) bs 0)):=by
 refine mk Try.func80 Try.call80 rfl rfl ?_
 refine ⟨[0,1,7,8],0,[],fun σ=>∃ i:Nat,i≤bs.length∧findI (fun y:Tk=>sameS y.name x.name) bs 0=findI (fun y:Tk=>sameS y.name x.name) (bs.drop i) i∧σ=⟨[(0,.list 2 (bs.map Tk.enc)),(1,.clo (.func 51) [] [.ro x.enc]),(7,.int .i64 (bs.map Tk.enc).length),(8,.int .i64 i)],[],.non⟩,fun σ=>(1000 - slotI 8 σ).toNat,rfl,⟨rfl,rfl⟩,⟨0,Nat.zero_le _,rfl,rfl⟩,?_⟩
 rintro σ ⟨i,hi,hf,rfl⟩
 refine ⟨fun h1=>?_,fun h1=>?_⟩
 ·have h1:=of_decide_eq_true h1
  rw [List.length_map] at h1
  have hi':i<bs.length:=by omega
  have hrow:(bs.map Tk.enc)[((i:Int)).toNat]?=some (bs[i].enc):=by simp [hi']
  have hdrop:bs.drop i=bs[i]::bs.drop (i+1):=List.drop_eq_getElem_cons hi'
  refine ⟨by omega,_,hrow,?_⟩
  refine ⟨_,rfl,_,den51 bs[i] x,?_⟩
  refine ⟨fun h2=>?_,fun h2=>?_⟩
  ·show some (D.int .i64 (i:Int))=some (D.int .i64 (findI (fun y:Tk=>sameS y.name x.name) bs 0))
   rw [hf,hdrop,findI,h2]
  ·refine ⟨_,wrap64 (by omega) (by omega),?_⟩
   refine ⟨⟨rfl,rfl⟩,⟨i+1,hi',?_,rfl⟩,?_⟩
   ·rw [hf,hdrop,findI,h2];rfl
   ·show (1000 - ((i:Int)+1)).toNat<(1000 - (i:Int)).toNat
    omega
 ·have h1:=of_decide_eq_false h1
  rw [List.length_map] at h1
  show some (D.int .i64 (-1))=some (D.int .i64 (findI (fun y:Tk=>sameS y.name x.name) bs 0))
  rw [hf,List.drop_of_length_le (by omega)]
  rfl

theorem den50 (bs:List Tk) (x:Tk) (hl:bs.length<1000):DN 50 [.list 2 (bs.map Tk.enc),.clo (.func 51) [] [.ro x.enc]] (.bool (bs.any fun y=>sameS y.name x.name)):=by
 refine mk Try.func50 Try.call50 rfl rfl ?_
 refine ⟨_,rfl,_,den80 bs x hl,?_⟩
 show some (D.bool _)=some (D.bool _)
 rw [← findI_any (fun y:Tk=>sameS y.name x.name) bs 0 (Int.le_refl 0)]

end Go.Proofs.Vent

namespace Go.Proofs.Vent
open Go.V Go.Proofs

structure Rp where
 fr:Int
 to:Int
 welded:Bool
def Rp.enc (p:Rp):List D:=[.int .i64 p.fr,.int .i64 p.to,.bool p.welded]
structure Nt where
 tanks:List Tk
 pipes:List Rp
def Nt.enc (n:Nt):List D:=[.list 2 (n.tanks.map Tk.enc),.list 3 (n.pipes.map Rp.enc)]

def tankE (ts:List Tk) (x:Tk):Int:=match nameB x.name with
 | false=>6
 | true=>match ts.any fun y=>sameS y.name x.name with | true=>5 | false=>0
def pipeE (many:Int) (p:Rp):Int:=match [p.fr,p.to].any (offB many) with
 | true=>4
 | false=>match p.fr==p.to with | true=>2 | false=>0
def badT (ts:List Tk):Nat→Nat→Option (Nat × Int)
 | 0,_=>none
 | r+1,i=>match ts[i]? with
  | none=>none
  | some x=>if tankE (ts.take i) x=0 then badT ts r (i+1) else some (i,tankE (ts.take i) x)
def badP (many:Int) (ps:List Rp):Nat→Nat→Option (Nat × Int)
 | 0,_=>none
 | r+1,i=>match ps[i]? with
  | none=>none
  | some p=>if pipeE many p=0 then badP many ps r (i+1) else some (i,pipeE many p)
def Nt.check (n:Nt):Int × Int × Int :=
 if n.tanks.length=0∨n.tanks.length > 7∨n.pipes.length > 12 then (1,0,3)
 else match badT n.tanks n.tanks.length 0 with
  | some (i,e)=>(2,i,e)
  | none=>match badP n.tanks.length n.pipes n.pipes.length 0 with
   | some (i,e)=>(3,i,e)
   | none=>(0,0,0)
def tup3 (p:Int × Int × Int):D:=.tup [.int .i64 p.1,.int .i64 p.2.1,.int .i64 p.2.2]

end Go.Proofs.Vent

namespace Go.Proofs.Vent
open Go.V Go.Proofs

theorem tk_len (l:List Tk):((l.map Tk.enc).length:Int)=l.length:=by simp
theorem rp_len (l:List Rp):((l.map Rp.enc).length:Int)=l.length:=by simp

set_option maxHeartbeats 2000000 in
theorem den15 (n:Nt):DN 15 [.agg n.enc] (tup3 n.check):=by
 refine mk Try.func15 Try.call15 rfl rfl ?_
 have htl:=tk_len n.tanks
 have hpl:=rp_len n.pipes
 have long:(n.tanks.length=0∨n.tanks.length > 7∨n.pipes.length > 12)→n.check=(1,0,3):=fun h=>by unfold Nt.check;rw [if_pos h]
 refine ⟨fun h1=>?_,fun h1=>?_⟩
 ·have h1:(((n.tanks.map Tk.enc).length:Int)==0)=true:=h1
  rw [htl] at h1
  rw [long (.inl (by simp at h1;rw [h1];rfl))];rfl
 have h1:(((n.tanks.map Tk.enc).length:Int)==0)=false:=h1
 have h1:n.tanks.length≠0:=fun e=>by rw [htl,e] at h1;simp at h1
 refine ⟨fun h2=>?_,fun h2=>?_⟩
 ·have h2:((n.tanks.map Tk.enc).length:Int) > 7:=of_decide_eq_true h2
  rw [long (.inr (.inl (by omega)))];rfl
 have h2:¬ ((n.tanks.map Tk.enc).length:Int) > 7:=of_decide_eq_false h2
 refine ⟨fun h3=>?_,fun h3=>?_⟩
 ·have h3:((n.pipes.map Rp.enc).length:Int) > 12:=of_decide_eq_true h3
  rw [long (.inr (.inr (by omega)))];rfl
 have h3:¬ ((n.pipes.map Rp.enc).length:Int) > 12:=of_decide_eq_false h3
 have hck:n.check=match badT n.tanks n.tanks.length 0 with
  | some (i,e)=>(2,(i:Int),e)
  | none=>match badP n.tanks.length n.pipes n.pipes.length 0 with
   | some (i,e)=>(3,(i:Int),e)
   | none=>(0,0,0):=by unfold Nt.check;rw [if_neg (by omega)];try rfl
 refine ⟨[1,26,27,28],1,[],fun σ=>∃ i:Nat,i≤n.tanks.length∧badT n.tanks n.tanks.length 0=badT n.tanks (n.tanks.length - i) i ∧
  σ=⟨[(1,.loc 0 0),(26,.list 2 (n.tanks.map Tk.enc)),(27,.int .i64 (n.tanks.map Tk.enc).length),(28,.int .i64 i)],[.flat false n.enc],.non⟩,
  fun σ=>(1000 - slotI 28 σ).toNat,rfl,⟨rfl,rfl⟩,⟨0,Nat.zero_le _,rfl,rfl⟩,?_⟩
 rintro σ ⟨i,hi,hb,rfl⟩
 refine ⟨fun h4=>?_,fun h4=>?_⟩
 ·have h4:=of_decide_eq_true h4
  rw [htl] at h4
  have hi':i<n.tanks.length:=by omega
  obtain ⟨x,hx⟩:∃ x,n.tanks[i]=x:=⟨_,rfl⟩
  have hgx:n.tanks[i]?=some x:=by rw [List.getElem?_eq_getElem hi',hx]
  have hrow:(n.tanks.map Tk.enc)[((i:Int)).toNat]?=some (x.enc):=by simp [hi',hx]
  have less:(1000 - ((i:Int)+1)).toNat<(1000 - (i:Int)).toNat:=by omega
  have hstep:badT n.tanks (n.tanks.length - i) i=if tankE (n.tanks.take i) x=0 then badT n.tanks (n.tanks.length - (i+1)) (i+1) else some (i,tankE (n.tanks.take i) x):=by
   rw [show n.tanks.length - i=(n.tanks.length - (i+1))+1 by omega]
   show (match n.tanks[i]? with | none=>none | some x=>_)=_
   rw [hgx]
  rw [hstep] at hb
  have hbad:∀ e,tankE (n.tanks.take i) x=e→e≠0→n.check=(2,(i:Int),e):=fun e he h0=>by
   rw [hck,hb,if_neg (by rw [he];exact h0),he]
  refine ⟨by omega,_,hrow,?_⟩
  refine ⟨_,rfl,_,den49 x.name,?_⟩
  refine ⟨fun h5=>?_,fun h5=>?_⟩
  ·have h5:(!(nameB x.name))=true:=h5
   have he:tankE (n.tanks.take i) x=6:=by unfold tankE;rw [show nameB x.name=false by simpa using h5]
   rw [hbad 6 he (by decide)];rfl
  have h5:(!(nameB x.name))=false:=h5
  have h5:nameB x.name=true:=by simpa using h5
  have h50:=den50 (n.tanks.take i) x (by rw [List.length_take];omega)
  refine ⟨⟨by omega,by rw [htl];omega⟩,_,(show (n.tanks.map Tk.enc).take i=(n.tanks.take i).map Tk.enc from (List.map_take ..).symm),?_⟩
  refine ⟨_,rfl,_,h50,?_⟩
  refine ⟨fun h6=>?_,fun h6=>?_⟩
  ·have he:tankE (n.tanks.take i) x=5:=by unfold tankE;rw [h5,h6]
   rw [hbad 5 he (by decide)];rfl
  ·have he:tankE (n.tanks.take i) x=0:=by unfold tankE;rw [h5,h6]
   rw [if_pos he] at hb
   refine ⟨(i:Int)+1,wrap64 (by omega) (by omega),?_⟩
   exact ⟨⟨rfl,rfl⟩,⟨i+1,hi',hb,rfl⟩,less⟩
 have h4:=of_decide_eq_false h4
 rw [htl] at h4
 rw [show n.tanks.length - i=0 by omega] at hb
 rw [hb] at hck
 have hck:n.check=match badP n.tanks.length n.pipes n.pipes.length 0 with
     | some (i,e)=>(3,(i:Int),e)
     | none=>(0,0,0):=hck
 refine ⟨[1,49,50,51],1,[],fun σ=>∃ k:Nat,k≤n.pipes.length∧badP n.tanks.length n.pipes n.pipes.length 0=badP n.tanks.length n.pipes (n.pipes.length - k) k ∧
  σ=⟨[(1,.loc 0 0),(49,.list 3 (n.pipes.map Rp.enc)),(50,.int .i64 (n.pipes.map Rp.enc).length),(51,.int .i64 k)],[.flat false n.enc],.non⟩,
  fun σ=>(1000 - slotI 51 σ).toNat,rfl,⟨rfl,rfl⟩,⟨0,Nat.zero_le _,rfl,rfl⟩,?_⟩
 rintro σ ⟨k,hk,hb2,rfl⟩
 refine ⟨fun h7=>?_,fun h7=>?_⟩
 ·have h7:=of_decide_eq_true h7
  rw [hpl] at h7
  have hk':k<n.pipes.length:=by omega
  obtain ⟨x,hx⟩:∃ x,n.pipes[k]=x:=⟨_,rfl⟩
  have hgx:n.pipes[k]?=some x:=by rw [List.getElem?_eq_getElem hk',hx]
  have hrow:(n.pipes.map Rp.enc)[((k:Int)).toNat]?=some (x.enc):=by simp [hk',hx]
  have less:(1000 - ((k:Int)+1)).toNat<(1000 - (k:Int)).toNat:=by omega
  have hstep:badP n.tanks.length n.pipes (n.pipes.length - k) k=if pipeE n.tanks.length x=0 then badP n.tanks.length n.pipes (n.pipes.length - (k+1)) (k+1) else some (k,pipeE n.tanks.length x):=by
   rw [show n.pipes.length - k=(n.pipes.length - (k+1))+1 by omega]
   show (match n.pipes[k]? with | none=>none | some x=>_)=_
   rw [hgx]
  rw [hstep] at hb2
  have hbad:∀ e,pipeE n.tanks.length x=e→e≠0→n.check=(3,(k:Int),e):=fun e he h0=>by
   rw [hck,hb2,if_neg (by rw [he];exact h0),he]
  have h52:=den52 [x.fr,x.to] ((n.tanks.map Tk.enc).length:Int) (by simp)
  refine ⟨by omega,_,hrow,?_⟩
  refine ⟨_,rfl,_,h52,?_⟩
  refine ⟨fun h8=>?_,fun h8=>?_⟩
  ·rw [htl] at h8
   have he:pipeE n.tanks.length x=4:=by unfold pipeE;rw [h8]
   rw [hbad 4 he (by decide)];rfl
  rw [htl] at h8
  refine ⟨fun h9=>?_,fun h9=>?_⟩
  ·have he:pipeE n.tanks.length x=2:=by unfold pipeE;rw [h8,h9]
   rw [hbad 2 he (by decide)];rfl
  ·have he:pipeE n.tanks.length x=0:=by unfold pipeE;rw [h8,h9]
   rw [if_pos he] at hb2
   refine ⟨(k:Int)+1,wrap64 (by omega) (by omega),?_⟩
   exact ⟨⟨rfl,rfl⟩,⟨k+1,hk',hb2,rfl⟩,less⟩
 have h7:=of_decide_eq_false h7
 rw [hpl] at h7
 rw [show n.pipes.length - k=0 by omega] at hb2
 rw [hb2] at hck
 rw [hck];rfl

end Go.Proofs.Vent

namespace Go.Proofs.Vent
open Go.V Go.Proofs

theorem den54 (v many:Int):DN 54 [.int .i64 v,.int .i64 many] (.bool (!(offB many v))):=by
 refine mk Try.func54 Try.call54 rfl rfl ?_
 refine ⟨fun h=>?_,fun h=>?_⟩
 ·have h:v ≥ 0:=of_decide_eq_true h
  show some (D.bool (decide (v<many)))=some (D.bool _)
  congr 2
  unfold offB
  apply Bool.eq_iff_iff.2
  simp;omega
 ·have h:¬ v ≥ 0:=of_decide_eq_false h
  show some (D.bool false)=some (D.bool _)
  congr 2
  unfold offB
  apply Bool.eq_iff_iff.2
  simp;omega

theorem fresh_tank (ts:List Tk) (x:Tk):freshE ts x.name=tankE ts x:=rfl

set_option maxHeartbeats 2000000 in
theorem den16 (n:Nt):DN 16 [.agg n.enc] (tup3 n.check):=by
 refine mk Try.func16 Try.call16 rfl rfl ?_
 have htl:=tk_len n.tanks
 have hpl:=rp_len n.pipes
 have long:(n.tanks.length=0∨n.tanks.length > 7∨n.pipes.length > 12)→n.check=(1,0,3):=fun h=>by unfold Nt.check;rw [if_pos h]
 refine ⟨fun h1=>?_,fun h1=>?_⟩
 ·have h1:((n.tanks.map Tk.enc).length:Int)<1:=of_decide_eq_true h1
  rw [long (.inl (by omega))];rfl
 have h1:¬ ((n.tanks.map Tk.enc).length:Int)<1:=of_decide_eq_false h1
 refine ⟨fun h2=>?_,fun h2=>?_⟩
 ·have h2:((n.tanks.map Tk.enc).length:Int) > 7:=of_decide_eq_true h2
  rw [long (.inr (.inl (by omega)))];rfl
 have h2:¬ ((n.tanks.map Tk.enc).length:Int) > 7:=of_decide_eq_false h2
 refine ⟨fun h3=>?_,fun h3=>?_⟩
 ·have h3:((n.pipes.map Rp.enc).length:Int) > 12:=of_decide_eq_true h3
  rw [long (.inr (.inr (by omega)))];rfl
 have h3:¬ ((n.pipes.map Rp.enc).length:Int) > 12:=of_decide_eq_false h3
 have hck:n.check=match badT n.tanks n.tanks.length 0 with
  | some (i,e)=>(2,(i:Int),e)
  | none=>match badP n.tanks.length n.pipes n.pipes.length 0 with
   | some (i,e)=>(3,(i:Int),e)
   | none=>(0,0,0):=by unfold Nt.check;rw [if_neg (by omega)];try rfl
 refine ⟨[1,5,6],1,[(.slot 5,1)],fun σ=>∃ (i g:Nat),i≤n.tanks.length∧badT n.tanks n.tanks.length 0=badT n.tanks (n.tanks.length - i) i ∧
  σ=⟨[(1,.loc 0 0),(5,.sl 1 g 0 (((n.tanks.take i).map (·.name)).map encS).length),(6,.int .i64 i)],[.flat false n.enc,.rows false g 1 (((n.tanks.take i).map (·.name)).map encS)],.non⟩,
  fun σ=>(1000 - slotI 6 σ).toNat,rfl,⟨rfl,rfl⟩,⟨0,0,Nat.zero_le _,rfl,rfl⟩,?_⟩
 rintro σ ⟨i,g,hi,hb,rfl⟩
 refine ⟨fun h4=>?_,fun h4=>?_⟩
 ·have h4:=of_decide_eq_true h4
  rw [htl] at h4
  have hi':i<n.tanks.length:=by omega
  obtain ⟨x,hx⟩:∃ x,n.tanks[i]=x:=⟨_,rfl⟩
  have hgx:n.tanks[i]?=some x:=by rw [List.getElem?_eq_getElem hi',hx]
  have hrow:(n.tanks.map Tk.enc)[((i:Int)).toNat]?=some (x.enc):=by simp [hi',hx]
  have less:(1000 - ((i:Int)+1)).toNat<(1000 - (i:Int)).toNat:=by omega
  have hstep:badT n.tanks (n.tanks.length - i) i=if tankE (n.tanks.take i) x=0 then badT n.tanks (n.tanks.length - (i+1)) (i+1) else some (i,tankE (n.tanks.take i) x):=by
   rw [show n.tanks.length - i=(n.tanks.length - (i+1))+1 by omega]
   show (match n.tanks[i]? with | none=>none | some x=>_)=_
   rw [hgx]
  rw [hstep] at hb
  have h53:=den53 (n.tanks.take i) x.name (by rw [List.length_take];omega)
  rw [fresh_tank] at h53
  have hcat:((n.tanks.take i).map (·.name)).map encS++[[D.str x.name]]=((n.tanks.take (i+1)).map (·.name)).map encS:=by
   rw [List.take_succ_eq_append_getElem hi',hx];simp [encS]
  have hl:(((n.tanks.take i).map (·.name)).map encS).length=i:=by simp;omega
  obtain ⟨e,he⟩:∃ e,tankE (n.tanks.take i) x=e:=⟨_,rfl⟩
  rw [he] at hb h53
  refine ⟨by omega,_,hrow,?_⟩
  refine ⟨_,mapO_cons rfl (mapO_cons (reify_sl rfl rfl) rfl),_,h53,?_⟩
  refine ⟨by omega,_,hrow,?_⟩
  refine ⟨trivial,iff' (by rw [beq_self];rfl) ⟨Nat.le_of_eq (Nat.zero_add _),?_,_,old_all rfl,_,hcat,trivial,?_⟩⟩
  ·rw [hl];show (i+1)*16≤mostBytes;unfold mostBytes;omega
  refine ⟨fun h5=>?_,fun h5=>?_⟩
  ·have h5:(e != 0)=true:=h5
   have h5:e≠0:=by simpa using h5
   rw [if_neg h5] at hb
   rw [hck,hb];rfl
  ·have h5:(e != 0)=false:=h5
   have h5:e=0:=by simpa using h5
   rw [if_pos h5] at hb
   refine ⟨(i:Int)+1,wrap64 (by omega) (by omega),?_⟩
   exact ⟨⟨rfl,rfl⟩,⟨i+1,g+1,hi',hb,rfl⟩,less⟩
 have h4:=of_decide_eq_false h4
 rw [htl] at h4
 rw [show n.tanks.length - i=0 by omega] at hb
 rw [hb] at hck
 have hck:n.check=match badP n.tanks.length n.pipes n.pipes.length 0 with
     | some (i,e)=>(3,(i:Int),e)
     | none=>(0,0,0):=hck
 refine ⟨[1,8],1,[],fun σ=>∃ k:Nat,k≤n.pipes.length∧badP n.tanks.length n.pipes n.pipes.length 0=badP n.tanks.length n.pipes (n.pipes.length - k) k ∧
  σ=⟨[(1,.loc 0 0),(8,.int .i64 k)],[.flat false n.enc],.non⟩,
  fun σ=>(1000 - slotI 8 σ).toNat,rfl,⟨rfl,rfl⟩,⟨0,Nat.zero_le _,rfl,rfl⟩,?_⟩
 rintro σ ⟨k,hk,hb2,rfl⟩
 refine ⟨fun h7=>?_,fun h7=>?_⟩
 ·have h7:=of_decide_eq_true h7
  rw [hpl] at h7
  have hk':k<n.pipes.length:=by omega
  obtain ⟨x,hx⟩:∃ x,n.pipes[k]=x:=⟨_,rfl⟩
  have hgx:n.pipes[k]?=some x:=by rw [List.getElem?_eq_getElem hk',hx]
  have hrow:(n.pipes.map Rp.enc)[((k:Int)).toNat]?=some (x.enc):=by simp [hk',hx]
  have less:(1000 - ((k:Int)+1)).toNat<(1000 - (k:Int)).toNat:=by omega
  have hstep:badP n.tanks.length n.pipes (n.pipes.length - k) k=if pipeE n.tanks.length x=0 then badP n.tanks.length n.pipes (n.pipes.length - (k+1)) (k+1) else some (k,pipeE n.tanks.length x):=by
   rw [show n.pipes.length - k=(n.pipes.length - (k+1))+1 by omega]
   show (match n.pipes[k]? with | none=>none | some x=>_)=_
   rw [hgx]
  rw [hstep] at hb2
  have hbad:∀ e,pipeE n.tanks.length x=e→e≠0→n.check=(3,(k:Int),e):=fun e he h0=>by
   rw [hck,hb2,if_neg (by rw [he];exact h0),he]
  have hp4:(offB n.tanks.length x.fr || offB n.tanks.length x.to)=true→n.check=(3,(k:Int),4):=fun h=>hbad 4 (by unfold pipeE;rw [show [x.fr,x.to].any (offB n.tanks.length)=true by simpa using h]) (by decide)
  refine ⟨by omega,_,hrow,?_⟩
  refine ⟨_,rfl,_,den54 x.fr ((n.tanks.map Tk.enc).length:Int),?_⟩
  refine ⟨fun h8=>?_,fun h8=>?_⟩
  ·have h8:(!(!(offB ((n.tanks.map Tk.enc).length:Int) x.fr)))=true:=h8
   rw [htl] at h8
   rw [hp4 (by simp at h8;rw [h8];rfl)];rfl
  have h8:(!(!(offB ((n.tanks.map Tk.enc).length:Int) x.fr)))=false:=h8
  rw [htl] at h8
  refine ⟨_,rfl,_,den54 x.to ((n.tanks.map Tk.enc).length:Int),?_⟩
  refine ⟨fun h9=>?_,fun h9=>?_⟩
  ·have h9:(!(!(offB ((n.tanks.map Tk.enc).length:Int) x.to)))=true:=h9
   rw [htl] at h9
   rw [hp4 (by simp at h9;rw [h9,Bool.or_true])];rfl
  have h9:(!(!(offB ((n.tanks.map Tk.enc).length:Int) x.to)))=false:=h9
  rw [htl] at h9
  have hany:[x.fr,x.to].any (offB n.tanks.length)=false:=by simp at h8 h9;simp [h8,h9]
  refine ⟨fun h10=>?_,fun h10=>?_⟩
  ·have he:pipeE n.tanks.length x=2:=by unfold pipeE;rw [hany,h10]
   rw [hbad 2 he (by decide)];rfl
  ·have he:pipeE n.tanks.length x=0:=by unfold pipeE;rw [hany,h10]
   rw [if_pos he] at hb2
   refine ⟨(k:Int)+1,wrap64 (by omega) (by omega),?_⟩
   exact ⟨⟨rfl,rfl⟩,⟨k+1,hk',hb2,rfl⟩,less⟩
 have h7:=of_decide_eq_false h7
 rw [hpl] at h7
 rw [show n.pipes.length - k=0 by omega] at hb2
 rw [hb2] at hck
 rw [hck];rfl

end Go.Proofs.Vent

namespace Go.Proofs.Vent
open Go.V Go.Proofs

def hasI (l:List Int) (v:Int):Bool:=l.any fun x=>v==x

theorem den93 (l:List Int) (v:Int) (hl:l.length<9223372036854775808):DN 93 [.list 1 (l.map encI),.int .i64 v] (.int .i64 (findI (fun x=>v==x) l 0)):=by
 refine mk Try.func93 Try.call93 rfl rfl ?_
 have hlen:((l.map encI).length:Int)=l.length:=by simp
 refine ⟨[0,1,7,8],0,[],fun σ=>∃ i:Nat,i≤l.length∧findI (fun x=>v==x) l 0=findI (fun x=>v==x) (l.drop i) i∧σ=⟨[(0,.list 1 (l.map encI)),(1,.int .i64 v),(7,.int .i64 (l.map encI).length),(8,.int .i64 i)],[],.non⟩,fun σ=>((l.length:Int) - slotI 8 σ).toNat,rfl,⟨rfl,rfl⟩,⟨0,Nat.zero_le _,rfl,rfl⟩,?_⟩
 rintro σ ⟨i,hi',hf,rfl⟩
 refine ⟨fun h1=>?_,fun h1=>?_⟩
 ·have h1:=of_decide_eq_true h1
  rw [hlen] at h1
  have hi':i<l.length:=by omega
  have hrow:=encI_get hi'
  have hdrop:l.drop i=l[i]::l.drop (i+1):=List.drop_eq_getElem_cons hi'
  rw [hdrop,findI] at hf
  refine ⟨by omega,_,hrow,?_⟩
  refine ⟨fun h2=>?_,fun h2=>?_⟩
  ·have h2:(v==l[i])=true:=h2
   rw [h2] at hf
   show some (D.int .i64 (i:Int))=some (D.int .i64 _)
   rw [hf]
  ·have h2:(v==l[i])=false:=h2
   rw [h2] at hf
   refine ⟨_,wrap64 (by omega) (by omega),?_⟩
   refine ⟨⟨rfl,rfl⟩,⟨i+1,hi',hf,rfl⟩,?_⟩
   show ((l.length:Int) - ((i:Int)+1)).toNat<((l.length:Int) - (i:Int)).toNat
   omega
 ·have h1:=of_decide_eq_false h1
  rw [hlen] at h1
  show some (D.int .i64 (-1))=some (D.int .i64 _)
  rw [hf,List.drop_of_length_le (by omega)]
  rfl

theorem den88 (l:List Int) (v:Int) (hl:l.length<9223372036854775808):DN 88 [.list 1 (l.map encI),.int .i64 v] (.bool (hasI l v)):=by
 refine mk Try.func88 Try.call88 rfl rfl ?_
 refine ⟨_,rfl,_,den93 l v hl,?_⟩
 show some (D.bool _)=some (D.bool _)
 unfold hasI
 rw [← findI_any (fun x=>v==x) l 0 (Int.le_refl 0)]

theorem den86 (n:Nt) (i:Int) (h0:0≤i) {p:Rp} (hp:n.pipes[i.toNat]?=some p):DN 86 [.int .i64 i,.ro n.enc] (.bool p.welded):=by
 refine mk Try.func86 Try.call86 rfl rfl ?_
 have hrow:(n.pipes.map Rp.enc)[i.toNat]?=some p.enc:=by rw [List.getElem?_map,hp];rfl
 exact ⟨h0,_,hrow,rfl⟩

theorem den87 (n:Nt) (i:Int) (h0:0≤i) {t:Tk} (ht:n.tanks[i.toNat]?=some t):DN 87 [.int .i64 i,.ro n.enc] (.bool t.kept):=by
 refine mk Try.func87 Try.call87 rfl rfl ?_
 have hrow:(n.tanks.map Tk.enc)[i.toNat]?=some t.enc:=by rw [List.getElem?_map,ht];rfl
 exact ⟨h0,_,hrow,rfl⟩

theorem assert28 (x:Int) (w:World):(Instr.typeAssert (.iface 28 (.int .i64 x)) 20 28 false).run Try.prog w=.ok (.int .i64 x) w:=by
 have h:Try.prog.underlying 28=some (.int .i64):=Try.underlying28
 simp [Instr.typeAssert,run_underlying h]

theorem any_cons {F:Fence} {n:Nat} {P:Program} {md:Region.Mode} {ops:Array Oper} {Q:Exit→Act→World→Prop} {fuel:Nat} {listed:Array Bool} {a:Act} {w:World} (l:List Nat) (hr:Region.ready md ops listed=l) (hne:l≠[])
    (h:∀ i∈l,wpOpIn F n P ops Q i (wpAnyIn F n P md ops Q fuel (listed.setIfInBounds i true)) a w):wpAnyIn F n P md ops Q (fuel+1) listed a w :=
  ⟨fun h0=>absurd (hr ▸ h0) hne,by rw [hr];exact h⟩

noncomputable def ops84:Array Oper:=match Try.f84.body with
 | some (.seq _ (.seq _ (.cond _ (.region _ ops _) _)))=>ops
 | _=>#[]

section
variable {n:Nat} {Q:Exit→Act→World→Prop} {K:Act→World→Prop} {w:World} {v1 v2 p x6 x7:Value} {b:Value}
theorem o84_0 (h:K ⟨#[v1,v2,p,p,p,b,p,x7],[]⟩ w):wpOpIn Fence.wide n Try.prog ops84 Q 0 K ⟨#[v1,v2,p,p,p,b,x6,x7],[]⟩ w:=by
 have hwr:Fence.wide.round=none:=rfl
 have hwf:∀ f,Fence.wide.fn f=True:=fun _=>rfl
 simp [wpOpIn,ops84,Try.f84,Region.wanted,go_sem,Oper.wpIn,Oper.uponIn_value,Oper.about,Oper.semAt_none,hwr,hwf,h]


theorem o84_1 {y:Int} (h:K ⟨#[v1,v2,p,p,p,b,.iface 28 (.int .i64 y),.int .i64 y],[]⟩ w):wpOpIn Fence.wide n Try.prog ops84 Q 1 K ⟨#[v1,v2,p,p,p,b,.iface 28 (.int .i64 y),x7],[]⟩ w:=by
 have hwr:Fence.wide.round=none:=rfl
 have hwf:∀ f,Fence.wide.fn f=True:=fun _=>rfl
 simp [wpOpIn,ops84,Try.f84,Region.wanted,go_sem,Oper.wpIn,Oper.uponIn_value,Oper.about,Oper.semAt_none,hwr,hwf,assert28,h]


theorem wpOpIn_of {F:Fence} {P:Program} {ops:Array Oper} {i:Nat} {a:Act} {o:Oper} (h1:ops[i]?=some o) (h2:Region.wanted o (yielded ops a.tmps)=true) (h:o.wpIn F n P a w K Q):wpOpIn F n P ops Q i K a w:=by
 unfold wpOpIn
 rw [h1]
 simp only [h2,if_true]
 exact h
theorem o84_2 {w':World} (hr:(Instr.storeAt 93 v1 (Value.pointer none)).run Try.prog w=.ok () w') (h:K ⟨#[v1,v2,p,p,p,b,x6,x7],[]⟩ w'):wpOpIn Fence.wide n Try.prog ops84 Q 2 K ⟨#[v1,v2,p,p,p,b,x6,x7],[]⟩ w:=by
 refine wpOpIn_of (o:=ops84[2]) rfl rfl ?_
 refine wp_skipped (.inl rfl) (by simp [ops84,Try.f84]) (w':=w') ?_ h
 have e:(execOp (Act.eval ⟨#[v1,v2,p,p,p,b,x6,x7],[]⟩) ops84[2])=(do Instr.storeAt 93 v1 (Value.pointer none);pure Next.skip:Sem Next):=rfl
 rw [e]
 simp [hr]
theorem o84_3 {w':World} (hr:(Instr.storeAt 28 v2 x7).run Try.prog w=.ok () w') (h:K ⟨#[v1,v2,p,p,p,b,x6,x7],[]⟩ w'):wpOpIn Fence.wide n Try.prog ops84 Q 3 K ⟨#[v1,v2,p,p,p,b,x6,x7],[]⟩ w:=by
 refine wpOpIn_of (o:=ops84[3]) rfl rfl ?_
 refine wp_skipped (.inl rfl) (by simp [ops84,Try.f84]) (w':=w') ?_ h
 have e:(execOp (Act.eval ⟨#[v1,v2,p,p,p,b,x6,x7],[]⟩) ops84[3])=(do Instr.storeAt 28 v2 x7;pure Next.skip:Sem Next):=rfl
 rw [e]
 simp [hr]
end
theorem r84_a:Region.ready .any ops84 (Array.replicate ops84.size false)=[0,2]:=by kernel_rfl
theorem r84_b:Region.ready .any ops84 ((Array.replicate ops84.size false).setIfInBounds 0 true)=[1,2]:=by kernel_rfl
theorem r84_c:Region.ready .any ops84 (((Array.replicate ops84.size false).setIfInBounds 0 true).setIfInBounds 1 true)=[2]:=by kernel_rfl
theorem r84_d:Region.ready .any ops84 ((((Array.replicate ops84.size false).setIfInBounds 0 true).setIfInBounds 1 true).setIfInBounds 2 true)=[3]:=by kernel_rfl
theorem r84_e:Region.ready .any ops84 (((Array.replicate ops84.size false).setIfInBounds 0 true).setIfInBounds 2 true)=[1]:=by kernel_rfl
theorem r84_f:Region.ready .any ops84 ((((Array.replicate ops84.size false).setIfInBounds 0 true).setIfInBounds 2 true).setIfInBounds 1 true)=[3]:=by kernel_rfl
theorem r84_g:Region.ready .any ops84 ((Array.replicate ops84.size false).setIfInBounds 2 true)=[0]:=by kernel_rfl
theorem r84_h:Region.ready .any ops84 (((Array.replicate ops84.size false).setIfInBounds 2 true).setIfInBounds 0 true)=[1]:=by kernel_rfl
theorem r84_i:Region.ready .any ops84 ((((Array.replicate ops84.size false).setIfInBounds 2 true).setIfInBounds 0 true).setIfInBounds 1 true)=[3]:=by kernel_rfl
theorem r84_j:Region.ready .any ops84 (((((Array.replicate ops84.size false).setIfInBounds 0 true).setIfInBounds 1 true).setIfInBounds 2 true).setIfInBounds 3 true)=[]:=by kernel_rfl
theorem r84_k:Region.ready .any ops84 (((((Array.replicate ops84.size false).setIfInBounds 0 true).setIfInBounds 2 true).setIfInBounds 1 true).setIfInBounds 3 true)=[]:=by kernel_rfl
theorem r84_l:Region.ready .any ops84 (((((Array.replicate ops84.size false).setIfInBounds 2 true).setIfInBounds 0 true).setIfInBounds 1 true).setIfInBounds 3 true)=[]:=by kernel_rfl

theorem run84 {Q:Exit→Act→World→Prop} {w w1 w2:World} {v1 v2 b:Value} {y:Int} (hr1:(Instr.storeAt 93 v1 (Value.pointer none)).run Try.prog w=.ok () w1) (hr2:(Instr.storeAt 28 v2 (.int .i64 y)).run Try.prog w1=.ok () w2)
    (h:Q .normal ⟨#[v1,v2,.iface 28 (.int .i64 y),.iface 28 (.int .i64 y),.iface 28 (.int .i64 y),b,.iface 28 (.int .i64 y),.int .i64 y],[]⟩ w2) :
    wpAnyIn Fence.wide 0 Try.prog .any ops84 Q 4 (Array.replicate ops84.size false) ⟨#[v1,v2,.iface 28 (.int .i64 y),.iface 28 (.int .i64 y),.iface 28 (.int .i64 y),b,undef,undef],[]⟩ w:=by
  refine any_cons _ r84_a (by simp) fun i hi=>?_
  simp only [List.mem_cons,List.not_mem_nil,or_false] at hi
  rcases hi with rfl | rfl
  ·refine o84_0 (any_cons _ r84_b (by simp) fun i hi=>?_)
   simp only [List.mem_cons,List.not_mem_nil,or_false] at hi
   rcases hi with rfl | rfl
   ·refine o84_1 (any_cons _ r84_c (by simp) fun i hi=>?_)
    obtain rfl:=List.mem_singleton.1 hi
    refine o84_2 hr1 (any_cons _ r84_d (by simp) fun i hi=>?_)
    obtain rfl:=List.mem_singleton.1 hi
    exact o84_3 hr2 ⟨r84_j,h⟩
   ·refine o84_2 hr1 (any_cons _ r84_e (by simp) fun i hi=>?_)
    obtain rfl:=List.mem_singleton.1 hi
    refine o84_1 (any_cons _ r84_f (by simp) fun i hi=>?_)
    obtain rfl:=List.mem_singleton.1 hi
    exact o84_3 hr2 ⟨r84_k,h⟩
  ·refine o84_2 hr1 (any_cons _ r84_g (by simp) fun i hi=>?_)
   obtain rfl:=List.mem_singleton.1 hi
   refine o84_0 (any_cons _ r84_h (by simp) fun i hi=>?_)
   obtain rfl:=List.mem_singleton.1 hi
   refine o84_1 (any_cons _ r84_i (by simp) fun i hi=>?_)
   obtain rfl:=List.mem_singleton.1 hi
   exact o84_3 hr2 ⟨r84_l,h⟩

theorem catch84:Catches Try.prog 84 28:=by
 refine ⟨Try.call84,fun cx σ β I S N a w v1 v2 i1 i2 c1 c2 hcx hs r1 r2 hne h1 h2=>⟨?_,fun x=>?_⟩⟩
 ·refine callsDIn_of_wpSIn Try.func84 rfl trivial fun c₀ cs hu=>?_
  apply wpSIn_seq
  apply wpSIn_region
  simp [wpOpsSIn,go_sem,recoverD,hu,Exit.thenS]
  refine ⟨fun _ _=>trivial,fun _ _=>trivial,?_⟩
  apply wpSIn_seq
  apply wpSIn_region
  simp [wpOpsSIn,go_sem,Exit.thenS]
  refine ⟨fun _ _=>trivial,fun _ _=>trivial,?_⟩
  refine wpSIn_cond (t:=false) (by simp [Act.eval,Array.replicate]) ?_
  simp only [Bool.false_eq_true,if_false]
  refine wpSIn_of_wpIn rfl (wpIn_skip ?_)
  refine ⟨rfl,FrameMode.returning,?_,?_⟩
  ·cases c₀;simp_all
  ·exact ⟨.tuple #[],by simp [results,Try.f84],⟨_,rfl⟩,rfl,rfl⟩
 ·have k28:=Try.tok 28 _ rfl
  have k93:=Try.tok 93 _ rfl
  obtain ⟨w1,_,_,hrun1,he1,hs1⟩:=store_sound (x:=.nilp) (xv:=.pointer none) (k:=fun e=>e=.set i1 (.flat false [.nilp]) .und) hcx (hs.keep hcx (Keep.drew _ w)) k93 r1 .nilp (by
   unfold storeE
   simp only [cellsOf,h1]
   exact iff'_mk rfl rfl)
  cases he1
  have h2':(σ.boxes.set i1 (.flat false [.nilp]))[i2]?=some (.flat false [.int .i64 c2]):=by rw [List.getElem?_set,if_neg hne];exact h2
  obtain ⟨w2,_,_,hrun2,he2,hs2⟩:=store_sound (x:=.int .i64 x) (xv:=.int .i64 x) (k:=fun e=>e=.set i2 (.flat false [.int .i64 x]) .und) hcx hs1 k28 r2 (.int .i64 x) (by
   unfold storeE
   simp only [cellsOf,h2']
   exact iff'_mk rfl rfl)
  cases he2
  refine callsDIn_of_wpSIn Try.func84 rfl trivial fun c₀ cs hu=>?_
  apply wpSIn_seq
  apply wpSIn_region
  simp [wpOpsSIn,go_sem,recoverD,hu,Exit.thenS]
  refine ⟨fun _ _=>trivial,fun _ _=>trivial,?_⟩
  apply wpSIn_seq
  apply wpSIn_region
  simp [wpOpsSIn,go_sem,Exit.thenS]
  refine ⟨fun _ _=>trivial,fun _ _=>trivial,?_⟩
  refine wpSIn_cond (t:=true) (by simp [Act.eval,Array.replicate]) ?_
  simp only [if_true]
  refine wpSIn_of_wpIn rfl (wpIn_region_any Try.mixed ?_)
  refine run84 (b:=.bool true) hrun1 hrun2 ?_
  refine ⟨rfl,_,rfl,?_⟩
  refine ⟨.tuple #[],by simp [results,Try.f84],⟨_,rfl⟩,rfl,hs2⟩
end Go.Proofs.Vent

namespace Go.Proofs.Vent
open Go.V Go.Proofs

def Rp.pp (p:Rp):Pp:=⟨p.fr.toNat,p.to.toNat,p.welded⟩
def Nt.keptB (n:Nt) (i:Nat):Bool:=match n.tanks[i]? with | some t=>t.kept | none=>false
def wantN (l:List Int):Nat→Nat
 | 0=>0
 | k+1=>match l[k]? with | some v=>wantN l k ||| 2^v.toNat | none=>wantN l k
def opF (many:Nat) (blanks:List Int) (i:Nat):Bool:=decide (i<many) && !(hasI blanks i)
def Nt.look (n:Nt) (blanks wanted:List Int):NetL:=⟨n.tanks,n.pipes.map Rp.pp,setOf n.tanks.length n.keptB,wantN wanted wanted.length,(List.range 12).map (opF n.pipes.length blanks)⟩

theorem badT_bad:∀ (r i:Nat) (ts:List Tk) (k:Nat) (e:Int),badT ts r i=some (k,e)→e≠0
 | 0,_,_,_,_,h=>by cases h
 | r+1,i,ts,k,e,h=>by
  unfold badT at h
  cases hx:ts[i]? with
  | none=>rw [hx] at h;cases h
  | some x =>
   rw [hx] at h
   simp only at h
   split at h
   ·exact badT_bad r (i+1) ts k e h
   ·cases h;assumption
theorem badP_bad (many:Int):∀ (r i:Nat) (ps:List Rp) (k:Nat) (e:Int),badP many ps r i=some (k,e)→e≠0
 | 0,_,_,_,_,h=>by cases h
 | r+1,i,ps,k,e,h=>by
  unfold badP at h
  cases hx:ps[i]? with
  | none=>rw [hx] at h;cases h
  | some x =>
   rw [hx] at h
   simp only at h
   split at h
   ·exact badP_bad many r (i+1) ps k e h
   ·cases h;assumption
theorem badP_none (many:Int):∀ (r i:Nat) (ps:List Rp),badP many ps r i=none→i+r=ps.length→∀ j p,i≤j→ps[j]?=some p→pipeE many p=0
 | 0,i,ps,_,hi,j,p,hj,hp=>by have:=(List.getElem?_eq_some_iff.1 hp).1;omega
 | r+1,i,ps,h,hi,j,p,hj,hp=>by
  unfold badP at h
  cases hx:ps[i]? with
  | none=>have:=List.getElem?_eq_none_iff.1 hx;omega
  | some x =>
   rw [hx] at h
   simp only at h
   split at h
   ·by_cases e:j=i
    ·subst e;rw [hx] at hp;cases hp;assumption
    ·exact badP_none many r (i+1) ps h (by omega) j p (by omega) hp
   ·cases h
structure Nt.Ok (n:Nt):Prop where
 t1:1≤n.tanks.length
 t7:n.tanks.length≤7
 p:n.pipes.length≤12
 pe:∀ p∈n.pipes,0≤p.fr∧p.fr<n.tanks.length∧0≤p.to∧p.to<n.tanks.length∧p.fr≠p.to
theorem Nt.check_ok {n:Nt} (h:n.check.2.2=0):n.Ok:=by
 unfold Nt.check at h
 split at h
 ·cases h
 ·rename_i hl
  cases hb:badT n.tanks n.tanks.length 0 with
  | some x=>rw [hb] at h;exact absurd h (badT_bad _ _ _ _ _ hb)
  | none =>
   rw [hb] at h
   simp only at h
   cases hb2:badP n.tanks.length n.pipes n.pipes.length 0 with
   | some x=>rw [hb2] at h;exact absurd h (badP_bad _ _ _ _ _ _ hb2)
   | none =>
    refine ⟨by omega,by omega,by omega,fun p hp=>?_⟩
    obtain ⟨i,hi⟩:=List.mem_iff_getElem?.1 hp
    have h2:=badP_none _ _ _ _ hb2 (by omega) i p (Nat.zero_le _) hi
    unfold pipeE at h2
    split at h2
    ·cases h2
    ·rename_i h3
     split at h2
     ·cases h2
     ·rename_i h4
      simp [offB] at h3
      simp at h4
      omega

theorem pp_enc {n:Nt} (h:n.Ok):(n.pipes.map Rp.pp).map Pp.enc=n.pipes.map Rp.enc:=by
 rw [List.map_map]
 refine List.map_congr_left fun p hp=>?_
 have:=h.pe p hp
 show [D.int .i64 ((p.fr.toNat:Nat):Int),D.int .i64 ((p.to.toNat:Nat):Int),D.bool p.welded]=[D.int .i64 p.fr,D.int .i64 p.to,D.bool p.welded]
 rw [Int.toNat_of_nonneg (by omega),Int.toNat_of_nonneg (by omega)]

def inAll (many:Nat) (l:List Int):Prop:=∀ v∈l,0≤v∧v<many
theorem offB_false {many v:Int} (h:offB many v=false):0≤v∧v<many:=by
 unfold offB at h
 rw [Bool.or_eq_false_iff,decide_eq_false_iff_not,decide_eq_false_iff_not] at h
 omega
theorem eachF_in (p:Int→Bool) (many:Int) (l:List Int):∀ (r k:Nat),eachF p many l r k=none→k+r=l.length→∀ j,k≤j→j<l.length→(0≤dAt l j∧dAt l j<many)∧p (dAt l j)=false∧(0<j→dAt l (j - 1)<dAt l j)
 | 0,k,_,hk,j,h1,h2=>by omega
 | r+1,k,h,hk,j,h1,h2=>by
  unfold eachF at h
  split at h
  ·cases h
  ·rename_i ho
   split at h
   ·cases h
   ·rename_i hs
    split at h
    ·cases h
    ·rename_i hp
     by_cases e:j=k
     ·subst e
      have h3:=offB_false (by simpa using ho)
      exact ⟨h3,by simpa using hp,fun h0=>by omega⟩
     ·exact eachF_in p many l r (k+1) h (by omega) j (by omega) h2
theorem eachF_all {p:Int→Bool} {many:Nat} {l:List Int} (h:eachF p many l l.length 0=none):inAll many l:=by
 intro v hv
 obtain ⟨j,hj,rfl⟩:=List.getElem_of_mem hv
 have:=(eachF_in p many l l.length 0 h (by omega) j (Nat.zero_le _) hj).1
 rw [dAt_get hj] at this
 exact this

theorem wantN_lt {l:List Int} (h:inAll 7 l):∀ k,wantN l k<2^7
 | 0=>(by decide:0<2^7)
 | k+1=>by
  unfold wantN
  cases hv:l[k]? with
  | none=>exact wantN_lt h k
  | some v =>
   have:=h v (List.mem_of_getElem? hv)
   exact or_lt (wantN_lt h k) (pow7 (by omega))

theorem Nt.look_ok {n:Nt} (h:n.Ok) (blanks:List Int) {wanted:List Int} (hw:inAll n.tanks.length wanted):(n.look blanks wanted).Ok:=by
 have h7:=h.t7
 refine ⟨h.t1,h.t7,by simp [Nt.look,h.p],fun p hp=>?_,?_,wantN_lt (fun v hv=>by have:=hw v hv;omega) _,by simp [Nt.look]⟩
 ·obtain ⟨q,hq,rfl⟩:=List.mem_map.1 hp
  have:=h.pe q hq
  show q.fr.toNat<n.tanks.length∧q.to.toNat<n.tanks.length∧q.fr.toNat≠q.to.toNat
  omega
 ·exact Nat.lt_of_lt_of_le (setOf_lt _ _) (Nat.pow_le_pow_right (by decide) h7)

def Nt.weldB (n:Nt) (v:Int):Bool:=match n.pipes[v.toNat]? with | some p=>p.welded | none=>false
def Nt.keepB (n:Nt) (v:Int):Bool:=match n.tanks[v.toNat]? with | some t=>t.kept | none=>false
def Nt.blanksE (n:Nt) (blanks:List Int):Option Int:=eachF n.weldB n.pipes.length blanks blanks.length 0
def Nt.wantedE (n:Nt) (wanted:List Int):Option Int:=if wanted.length=0 then some 3 else eachF n.keepB n.tanks.length wanted wanted.length 0
def Nt.lookE (n:Nt) (blanks wanted:List Int) (asked:Bool):Int:=if n.check.2.2≠0 then n.check.2.2 else match n.blanksE blanks with
 | some e=>e
 | none=>match asked with
  | false=>0
  | true=>match n.wantedE wanted with
   | some e=>e
   | none=>0
def Nt.lookD (n:Nt) (blanks wanted:List Int) (asked:Bool):D:=if n.lookE blanks wanted asked=0 then .tup [.ro (n.look blanks wanted).enc,.int .i64 0] else .tup [.nilp,.int .i64 (n.lookE blanks wanted asked)]

theorem eachF_pos (p:Int→Bool) (many:Int) (l:List Int):∀ (r k:Nat) (e:Int),eachF p many l r k=some e→e≠0
 | 0,_,_,h=>by cases h
 | r+1,k,e,h=>by
  unfold eachF at h
  split at h
  ·cases h;decide
  ·split at h
   ·cases h;decide
   ·split at h
    ·cases h;decide
    ·exact eachF_pos p many l r (k+1) e h

def opsK (_many:Nat) (blanks:List Int) (k:Nat):List D:=(List.range 12).map fun i=>if i<k then D.bool (!(hasI blanks i)) else D.ff
theorem opsK_len (many:Nat) (blanks:List Int) (k:Nat):(opsK many blanks k).length=12:=by simp [opsK]
theorem splice_set {l:List D} {k:Nat} {x:D} (h:k<l.length):splice l k [x]=l.set k x:=by
 unfold splice
 rw [List.set_eq_take_append_cons_drop,if_pos h]
 rfl
theorem opsK_step {many:Nat} {blanks:List Int} {k:Nat} (hk:k<12):splice (opsK many blanks k) k [D.bool (!(hasI blanks k))]=opsK many blanks (k+1):=by
 rw [splice_set (by rw [opsK_len];exact hk)]
 apply List.ext_getElem?
 intro i
 unfold opsK
 rw [List.getElem?_set]
 simp only [List.getElem?_map,List.length_map,List.length_range]
 by_cases e:k=i
 ·subst e
  rw [if_pos rfl,if_pos hk]
  simp [hk]
 ·rw [if_neg e]
  by_cases hi:i<12
  ·simp only [List.getElem?_range hi,Option.map_some]
   by_cases h2:i<k
   ·rw [if_pos h2,if_pos (by omega)]
   ·rw [if_neg h2,if_neg (by omega)]
  ·simp [hi]
theorem splice_cons4 {a b c d:D} {l:List D} {k:Nat} {x:D}:splice (a::b::c::d::l) (4+k) [x]=a::b::c::d::splice l k [x]:=by
 unfold splice
 rw [show 4+k=k+1+1+1+1 by omega]
 simp only [List.take_succ_cons,List.cons_append,List.length_cons,List.length_nil]
 rw [show k+1+1+1+1+(0+1)=(k+(0+1))+1+1+1+1 by omega]
 rfl
theorem mapO_ops {bs:List Box} {m:Nat} {many:Nat} {blanks:List Int}:mapO (reify bs (m+1)) (opsK many blanks many)=some (((List.range 12).map (opF many blanks)).map D.bool):=by
 unfold opsK
 have:∀ l:List Nat,mapO (reify bs (m+1)) (l.map fun i=>if i<many then D.bool (!(hasI blanks i)) else D.ff)=some ((l.map (opF many blanks)).map D.bool):=by
  intro l
  induction l with
  | nil=>rfl
  | cons i l ih =>
   refine mapO_cons ?_ ih
   unfold opF
   by_cases h:i<many
   ·show reify bs (m+1) (if i<many then D.bool (!(hasI blanks i)) else D.ff)=some (D.bool (decide (i<many) && !(hasI blanks i)))
    rw [if_pos h,decide_eq_true h];rfl
   ·show reify bs (m+1) (if i<many then D.bool (!(hasI blanks i)) else D.ff)=some (D.bool (decide (i<many) && !(hasI blanks i)))
    rw [if_neg h,decide_eq_false h];rfl
 exact this _

end Go.Proofs.Vent

namespace Go.Proofs.Vent
open Go.V Go.Proofs

theorem okAll_opsK (nb many:Nat) (blanks:List Int) (k:Nat):okAll nb (opsK many blanks k)=true:=by
 unfold opsK
 have:∀ l:List Nat,okAll nb (l.map fun i=>if i<k then D.bool (!(hasI blanks i)) else D.ff)=true:=by
  intro l
  induction l with
  | nil=>rfl
  | cons i l ih =>
   show (match okAt nb (if i<k then D.bool (!(hasI blanks i)) else D.ff) with | true=>okAll nb _ | false=>false)=true
   rw [ih]
   by_cases h:i<k
   ·rw [if_pos h];rfl
   ·rw [if_neg h];rfl
 exact this _
theorem okB_net {c0:List D} (h0:okAll 4 c0=true) {e:Int} {t p:List (List D)} {k w:Int} {O:List D} (hO:okAll 4 O=true) :
    okBoxes 4 [.flat false c0,.flat false [.loc 3 0],.flat false [.int .i64 e],.flat false (.list 2 t::.list 3 p::.int .u64 k::.int .u64 w::O)]=true:=by
  exact okB_cons h0 (okB_cons rfl (okB_cons rfl (okB_cons hO rfl)))
theorem look_enc {n:Nt} (hok:n.Ok) {blanks wanted:List Int}:(n.look blanks wanted).enc=.list 2 (n.tanks.map Tk.enc)::.list 3 (n.pipes.map Rp.enc)::.int .u64 ((setOf n.tanks.length n.keptB:Nat):Int)::.int .u64 ((wantN wanted wanted.length:Nat):Int)::((List.range 12).map (opF n.pipes.length blanks)).map D.bool:=by
 rw [← pp_enc hok]
 rfl

set_option maxHeartbeats 8000000 in
theorem den55n (n:Nt) (blanks  : List Int) (hbl:blanks.length<9223372036854775808) :
    DN 55 [.agg n.enc,.list 1 (blanks.map encI),.list 1 (([]:List Int).map encI),.bool false] (n.lookD blanks [] false):=by
  refine den_of_def (sh:=shV) (ish:=ishV) (np:=4) (t1:=8) (t2:=9) (t3:=24) (k:=84) (t:=28) Try.tok Try.mixed Try.func55 rfl Try.call55 (by rfl) (by exact (show 4≤Try.f55.ntmps by decide)) (by rfl) rfl rfl rfl rfl rfl rfl rfl rfl (by decide) catch84 ?_
  obtain ⟨wanted,hwd⟩:∃ w:List Int,w=[]:=⟨_,rfl⟩
  rw [← hwd]
  obtain ⟨q1,q2,q3,hq⟩:∃ q1 q2 q3,n.check=(q1,q2,q3):=⟨_,_,_,rfl⟩
  have h15:=den15 n
  rw [hq] at h15
  have hE:n.lookE blanks wanted false=if q3≠0 then q3 else match n.blanksE blanks with | some e=>e | none=>0:=by unfold Nt.lookE;rw [hq];try (show (if q3≠0 then q3 else _)=_;cases n.blanksE blanks <;> rfl)
  have bad:∀ e:Int,e≠0→n.lookE blanks wanted false=e→n.lookD blanks wanted false=.tup [.nilp,.int .i64 e]:=fun e he h=>by unfold Nt.lookD;rw [h,if_neg he]
  refine ⟨_,rfl,_,h15,?_⟩
  refine ⟨fun h1=>?_,fun h1=>?_⟩
  ·have h1:(q3 != 0)=true:=h1
   have h1:q3≠0:=by simpa using h1
   rw [bad q3 h1 (by rw [hE,if_pos h1])]
   refine Or.inr (Or.inl ⟨1,[0],by kernel_rfl,?_⟩)
   refine ⟨⟨rfl,trivial⟩,?_⟩
   refine ⟨trivial,?_⟩
   exact rfl
  have h1:(q3 != 0)=false:=h1
  have h1:q3=0:=by simpa using h1
  subst h1
  have hok:=Nt.check_ok (n:=n) (by rw [hq])
  have h7:=hok.t7
  have h12:=hok.p
  refine ⟨1,2,rfl,rfl,rfl,rfl,by decide,?_⟩
  have hpl:((n.pipes.map Rp.enc).length:Int)=n.pipes.length:=by simp
  have htl:((n.tanks.map Tk.enc).length:Int)=n.tanks.length:=by simp
  have hp85:=denP85a (cap:=n.enc) n.weldB blanks ((n.pipes.map Rp.enc).length:Int) (fun i h0 h1=>by
   rw [hpl] at h1
   have hp:n.pipes[i.toNat]?=some (n.pipes[i.toNat]'(by omega)):=List.getElem?_eq_getElem (by omega)
   have:=den86 n i h0 hp
   unfold Nt.weldB
   rw [hp]
   exact this) hbl
  have hB:n.blanksE blanks=eachF n.weldB ((n.pipes.map Rp.enc).length:Int) blanks blanks.length 0:=by unfold Nt.blanksE;rw [hpl]
  rw [← hB] at hp85
  cases hbe:n.blanksE blanks with
  | some e =>
   rw [hbe] at hp85 hE
   have he:=eachF_pos _ _ _ _ _ _ hbe
   rw [bad e he (by rw [hE];rfl)]
   refine ⟨_,rfl,_,hp85,?_⟩
   exact ⟨⟨_,_,rfl,rfl⟩,e,rfl,rfl⟩
  | none =>
  rw [hbe] at hp85 hE
  refine ⟨_,rfl,none,hp85,fun t e=>by cases e;rfl,?_⟩
  refine ⟨fun h=>absurd h (by decide),fun _=>?_⟩
  have hin:inAll n.tanks.length wanted:=by rw [hwd];intro v hv;cases hv
  have hin7:inAll 7 wanted:=by rw [hwd];intro v hv;cases hv
  have hwl:wanted.length<9223372036854775808:=by rw [hwd];decide
  have hz:n.lookE blanks wanted false=0:=by rw [hE];rfl
  have e0:n.lookD blanks wanted false=.tup [.ro (n.look blanks wanted).enc,.int .i64 0]:=by unfold Nt.lookD;rw [if_pos hz]
  rw [e0]
  refine ⟨[1,2,4,8,9,47,48],4,[],fun σ=>∃ k:Nat,k≤n.pipes.length ∧
   σ=⟨[(1,.list 1 (blanks.map encI)),(2,.list 1 (wanted.map encI)),(4,.loc 0 0),(8,.loc 1 0),(9,.loc 2 0),(47,.int .i64 (n.pipes.map Rp.enc).length),(48,.int .i64 k)],
    [.flat false n.enc,.flat false [.loc 3 0],.flat false [.int .i64 0],.flat false (.list 2 (n.tanks.map Tk.enc)::.list 3 (n.pipes.map Rp.enc)::.int .u64 0::.int .u64 0::opsK n.pipes.length blanks k)],.non⟩,
   fun σ=>(1000 - slotI 48 σ).toNat,rfl,⟨rfl,rfl⟩,⟨0,Nat.zero_le _,rfl⟩,?_⟩
  rintro σ ⟨k,hk,rfl⟩
  refine ⟨fun h2=>?_,fun h2=>?_⟩
  ·have h2:=of_decide_eq_true h2
   rw [hpl] at h2
   have hk':k<n.pipes.length:=by omega
   have less:(1000 - ((k:Int)+1)).toNat<(1000 - (k:Int)).toNat:=by omega
   refine Or.inl ⟨by kernel_rfl,?_⟩
   refine ⟨_,rfl,_,den88 blanks k hbl,?_⟩
   refine ⟨⟨by omega,by omega⟩,k,Nat.mul_one k,?_⟩
   refine ⟨by simp only [List.length_cons,List.length_nil,opsK_len];omega,_,(show splice (.list 2 (n.tanks.map Tk.enc)::.list 3 (n.pipes.map Rp.enc)::.int .u64 0::.int .u64 0::opsK n.pipes.length blanks k) (4+k) [D.bool (!(hasI blanks k))]=_ by rw [splice_cons4,opsK_step (by omega)]),?_⟩
   refine ⟨(k:Int)+1,wrap64 (by omega) (by omega),?_⟩
   exact ⟨⟨rfl,okB_net rfl (okAll_opsK _ n.pipes.length blanks _)⟩,⟨k+1,hk',rfl⟩,less⟩
  have h2:=of_decide_eq_false h2
  rw [hpl] at h2
  obtain rfl:k=n.pipes.length:=by omega
  refine ⟨[2,4,8,9,62,63,64],4,[],fun σ=>∃ i:Nat,i≤n.tanks.length ∧
   σ=⟨[(2,.list 1 (wanted.map encI)),(4,.loc 0 0),(8,.loc 1 0),(9,.loc 2 0),(62,.list 2 (n.tanks.map Tk.enc)),(63,.int .i64 (n.tanks.map Tk.enc).length),(64,.int .i64 i)],
    [.flat false n.enc,.flat false [.loc 3 0],.flat false [.int .i64 0],.flat false (.list 2 (n.tanks.map Tk.enc)::.list 3 (n.pipes.map Rp.enc)::.int .u64 ((setOf i n.keptB:Nat):Int)::.int .u64 0::opsK n.pipes.length blanks n.pipes.length)],.non⟩,
   fun σ=>(1000 - slotI 64 σ).toNat,rfl,⟨rfl,okB_net rfl (okAll_opsK _ n.pipes.length blanks _)⟩,⟨0,Nat.zero_le _,rfl⟩,?_⟩
  rintro σ ⟨i,hi,rfl⟩
  refine ⟨fun h3=>?_,fun h3=>?_⟩
  ·have h3:=of_decide_eq_true h3
   rw [htl] at h3
   have hi':i<n.tanks.length:=by omega
   have less:(1000 - ((i:Int)+1)).toNat<(1000 - (i:Int)).toNat:=by omega
   obtain ⟨t,ht⟩:∃ t,n.tanks[i]'hi'=t:=⟨_,rfl⟩
   have hgt:n.tanks[i]?=some t:=by rw [List.getElem?_eq_getElem hi',ht]
   have hrow:(n.tanks.map Tk.enc)[((i:Int)).toNat]?=some t.enc:=by simp [hi',ht]
   have hkb:n.keptB i=t.kept:=by unfold Nt.keptB;rw [hgt]
   refine ⟨by omega,_,hrow,?_⟩
   refine ⟨fun h4=>?_,fun h4=>?_⟩
   ·have h4:t.kept=true:=h4
    refine Or.inl ⟨by kernel_rfl,?_⟩
    refine ⟨_,rfl,_,den57 i (by omega),?_⟩
    refine ⟨_,bits_or (setOf_lt62 _ (by omega)) (pow_lt62 (by omega)),?_⟩
    refine ⟨(i:Int)+1,wrap64 (by omega) (by omega),?_⟩
    exact ⟨⟨rfl,okB_net rfl (okAll_opsK _ n.pipes.length blanks _)⟩,⟨i+1,hi',by rw [← setOf_or (hkb.trans h4)];rfl⟩,less⟩
   ·have h4:t.kept=false:=h4
    refine ⟨(i:Int)+1,wrap64 (by omega) (by omega),?_⟩
    exact ⟨⟨rfl,okB_net rfl (okAll_opsK _ n.pipes.length blanks _)⟩,⟨i+1,hi',by rw [← setOf_skip (hkb.trans h4)];rfl⟩,less⟩
  have h3:=of_decide_eq_false h3
  rw [htl] at h3
  obtain rfl:i=n.tanks.length:=by omega
  refine ⟨[8,9,81,82,83],4,[],fun σ=>∃ j:Nat,j≤wanted.length ∧
   σ=⟨[(8,.loc 1 0),(9,.loc 2 0),(81,.list 1 (wanted.map encI)),(82,.int .i64 (wanted.map encI).length),(83,.int .i64 j)],
    [.flat false n.enc,.flat false [.loc 3 0],.flat false [.int .i64 0],.flat false (.list 2 (n.tanks.map Tk.enc)::.list 3 (n.pipes.map Rp.enc)::.int .u64 ((setOf n.tanks.length n.keptB:Nat):Int)::.int .u64 ((wantN wanted j:Nat):Int)::opsK n.pipes.length blanks n.pipes.length)],.non⟩,
   fun σ=>((wanted.length:Int) - slotI 83 σ).toNat,rfl,⟨rfl,okB_net rfl (okAll_opsK _ n.pipes.length blanks _)⟩,⟨0,Nat.zero_le _,rfl⟩,?_⟩
  rintro σ ⟨j,hj,rfl⟩
  have hwlen:((wanted.map encI).length:Int)=wanted.length:=by simp
  refine ⟨fun h4=>?_,fun h4=>?_⟩
  ·have h4:=of_decide_eq_true h4
   rw [hwlen] at h4
   have hj':j<wanted.length:=by omega
   have less:((wanted.length:Int) - ((j:Int)+1)).toNat<((wanted.length:Int) - (j:Int)).toNat:=by omega
   have hrow:=encI_get hj'
   obtain ⟨v,hv⟩:∃ v,wanted[j]'hj'=v:=⟨_,rfl⟩
   rw [hv] at hrow
   have hgv:wanted[j]?=some v:=by rw [List.getElem?_eq_getElem hj',hv]
   have hin:=hin v (List.mem_of_getElem? hgv)
   obtain ⟨m,rfl⟩:∃ m:Nat,v=m:=⟨v.toNat,by omega⟩
   have hstep:wantN wanted (j+1)=wantN wanted j ||| 2^m:=by
    show (match wanted[j]? with | some v=>_ | none=>_)=_
    rw [hgv];rfl
   have hlt:=wantN_lt hin7 j
   refine ⟨by omega,_,hrow,?_⟩
   refine Or.inl ⟨by kernel_rfl,?_⟩
   refine ⟨_,rfl,_,den57 m (by omega),?_⟩
   refine ⟨_,bits_or (by omega) (pow_lt62 (by omega)),?_⟩
   refine ⟨(j:Int)+1,wrap64 (by omega) (by omega),?_⟩
   exact ⟨⟨rfl,okB_net rfl (okAll_opsK _ n.pipes.length blanks _)⟩,⟨j+1,hj',by rw [hstep];rfl⟩,less⟩
  have h4:=of_decide_eq_false h4
  rw [hwlen] at h4
  obtain rfl:j=wanted.length:=by omega
  refine ⟨⟨_,_,rfl,rfl⟩,?_⟩
  rw [look_enc hok]
  exact reify_tup (mapO_cons (reify_loc rfl (mapO_cons rfl (mapO_cons rfl (mapO_cons rfl (mapO_cons rfl (mapO_ops (many:=n.pipes.length) (blanks:=blanks))))))) (mapO_cons rfl rfl))

end Go.Proofs.Vent

namespace Go.Proofs.Vent
open Go.V Go.Proofs

set_option maxHeartbeats 8000000 in
theorem den55w (n:Nt) (blanks wanted:List Int) (hbl:blanks.length<9223372036854775808) (hwl:wanted.length<9223372036854775808) :
    DN 55 [.agg n.enc,.list 1 (blanks.map encI),.list 1 (wanted.map encI),.bool true] (n.lookD blanks wanted true):=by
  refine den_of_def (sh:=shV) (ish:=ishV) (np:=4) (t1:=8) (t2:=9) (t3:=24) (k:=84) (t:=28) Try.tok Try.mixed Try.func55 rfl Try.call55 (by rfl) (by exact (show 4≤Try.f55.ntmps by decide)) (by rfl) rfl rfl rfl rfl rfl rfl rfl rfl (by decide) catch84 ?_
  obtain ⟨q1,q2,q3,hq⟩:∃ q1 q2 q3,n.check=(q1,q2,q3):=⟨_,_,_,rfl⟩
  have h15:=den15 n
  rw [hq] at h15
  have hE:n.lookE blanks wanted true=if q3≠0 then q3 else match n.blanksE blanks with | some e=>e | none=>match n.wantedE wanted with | some e=>e | none=>0:=by unfold Nt.lookE;rw [hq];try (show (if q3≠0 then q3 else _)=_;cases n.blanksE blanks <;> rfl)
  have bad:∀ e:Int,e≠0→n.lookE blanks wanted true=e→n.lookD blanks wanted true=.tup [.nilp,.int .i64 e]:=fun e he h=>by unfold Nt.lookD;rw [h,if_neg he]
  refine ⟨_,rfl,_,h15,?_⟩
  refine ⟨fun h1=>?_,fun h1=>?_⟩
  ·have h1:(q3 != 0)=true:=h1
   have h1:q3≠0:=by simpa using h1
   rw [bad q3 h1 (by rw [hE,if_pos h1])]
   refine Or.inr (Or.inl ⟨1,[0],by kernel_rfl,?_⟩)
   refine ⟨⟨rfl,trivial⟩,?_⟩
   refine ⟨trivial,?_⟩
   exact rfl
  have h1:(q3 != 0)=false:=h1
  have h1:q3=0:=by simpa using h1
  subst h1
  have hok:=Nt.check_ok (n:=n) (by rw [hq])
  have h7:=hok.t7
  have h12:=hok.p
  refine ⟨1,2,rfl,rfl,rfl,rfl,by decide,?_⟩
  have hpl:((n.pipes.map Rp.enc).length:Int)=n.pipes.length:=by simp
  have htl:((n.tanks.map Tk.enc).length:Int)=n.tanks.length:=by simp
  have hp85:=denP85a (cap:=n.enc) n.weldB blanks ((n.pipes.map Rp.enc).length:Int) (fun i h0 h1=>by
   rw [hpl] at h1
   have hp:n.pipes[i.toNat]?=some (n.pipes[i.toNat]'(by omega)):=List.getElem?_eq_getElem (by omega)
   have:=den86 n i h0 hp
   unfold Nt.weldB
   rw [hp]
   exact this) hbl
  have hB:n.blanksE blanks=eachF n.weldB ((n.pipes.map Rp.enc).length:Int) blanks blanks.length 0:=by unfold Nt.blanksE;rw [hpl]
  rw [← hB] at hp85
  cases hbe:n.blanksE blanks with
  | some e =>
   rw [hbe] at hp85 hE
   have he:=eachF_pos _ _ _ _ _ _ hbe
   rw [bad e he (by rw [hE];rfl)]
   refine ⟨_,rfl,_,hp85,?_⟩
   exact ⟨⟨_,_,rfl,rfl⟩,e,rfl,rfl⟩
  | none =>
  rw [hbe] at hp85 hE
  refine ⟨_,rfl,none,hp85,fun t e=>by cases e;rfl,?_⟩
  refine ⟨fun _=>?_,fun h=>absurd h (by decide)⟩
  have hwlen0:((wanted.map encI).length:Int)=wanted.length:=by simp
  refine ⟨fun h5=>?_,fun h5=>?_⟩
  ·have h5:(((wanted.map encI).length:Int)==0)=true:=h5
   rw [hwlen0] at h5
   have h5:wanted.length=0:=by simp at h5;simp [h5]
   rw [bad 3 (by decide) (by rw [hE];unfold Nt.wantedE;rw [if_pos h5];rfl)]
   refine ⟨rfl,⟨_,_,rfl,rfl⟩,?_⟩
   exact ⟨⟨_,_,rfl,rfl⟩,3,rfl,rfl⟩
  have h5:(((wanted.map encI).length:Int)==0)=false:=h5
  rw [hwlen0] at h5
  have h5:wanted.length≠0:=by simp at h5;simpa using h5
  have hp85b:=denP85b (cap:=n.enc) n.keepB wanted ((n.tanks.map Tk.enc).length:Int) (fun i h0 h1=>by
   rw [htl] at h1
   have ht:n.tanks[i.toNat]?=some (n.tanks[i.toNat]'(by omega)):=List.getElem?_eq_getElem (by omega)
   have:=den87 n i h0 ht
   unfold Nt.keepB
   rw [ht]
   exact this) hwl
  have hW:n.wantedE wanted=eachF n.keepB ((n.tanks.map Tk.enc).length:Int) wanted wanted.length 0:=by unfold Nt.wantedE;rw [if_neg h5,htl]
  rw [← hW] at hp85b
  cases hwe:n.wantedE wanted with
  | some e =>
   have hwe':=hwe
   rw [hW] at hwe'
   rw [hwe] at hp85b hE
   have he:=eachF_pos _ _ _ _ _ _ hwe'
   rw [bad e he (by rw [hE];rfl)]
   refine ⟨_,rfl,_,hp85b,?_⟩
   exact ⟨⟨_,_,rfl,rfl⟩,e,rfl,rfl⟩
  | none =>
  have hwe':=hwe
  rw [hW,htl] at hwe'
  rw [hwe] at hp85b hE
  have hin:inAll n.tanks.length wanted:=eachF_all hwe'
  have hz:n.lookE blanks wanted true=0:=by rw [hE];rfl
  have hin7:inAll 7 wanted:=fun v hv=>by have:=hin v hv;omega
  refine ⟨_,rfl,none,hp85b,fun t e=>by cases e;rfl,?_⟩
  have e0:n.lookD blanks wanted true=.tup [.ro (n.look blanks wanted).enc,.int .i64 0]:=by unfold Nt.lookD;rw [if_pos hz]
  rw [e0]
  refine ⟨[1,2,4,8,9,47,48],4,[],fun σ=>∃ k:Nat,k≤n.pipes.length ∧
   σ=⟨[(1,.list 1 (blanks.map encI)),(2,.list 1 (wanted.map encI)),(4,.loc 0 0),(8,.loc 1 0),(9,.loc 2 0),(47,.int .i64 (n.pipes.map Rp.enc).length),(48,.int .i64 k)],
    [.flat false n.enc,.flat false [.loc 3 0],.flat false [.int .i64 0],.flat false (.list 2 (n.tanks.map Tk.enc)::.list 3 (n.pipes.map Rp.enc)::.int .u64 0::.int .u64 0::opsK n.pipes.length blanks k)],.non⟩,
   fun σ=>(1000 - slotI 48 σ).toNat,rfl,⟨rfl,rfl⟩,⟨0,Nat.zero_le _,rfl⟩,?_⟩
  rintro σ ⟨k,hk,rfl⟩
  refine ⟨fun h2=>?_,fun h2=>?_⟩
  ·have h2:=of_decide_eq_true h2
   rw [hpl] at h2
   have hk':k<n.pipes.length:=by omega
   have less:(1000 - ((k:Int)+1)).toNat<(1000 - (k:Int)).toNat:=by omega
   refine Or.inl ⟨by kernel_rfl,?_⟩
   refine ⟨_,rfl,_,den88 blanks k hbl,?_⟩
   refine ⟨⟨by omega,by omega⟩,k,Nat.mul_one k,?_⟩
   refine ⟨by simp only [List.length_cons,List.length_nil,opsK_len];omega,_,(show splice (.list 2 (n.tanks.map Tk.enc)::.list 3 (n.pipes.map Rp.enc)::.int .u64 0::.int .u64 0::opsK n.pipes.length blanks k) (4+k) [D.bool (!(hasI blanks k))]=_ by rw [splice_cons4,opsK_step (by omega)]),?_⟩
   refine ⟨(k:Int)+1,wrap64 (by omega) (by omega),?_⟩
   exact ⟨⟨rfl,okB_net rfl (okAll_opsK _ n.pipes.length blanks _)⟩,⟨k+1,hk',rfl⟩,less⟩
  have h2:=of_decide_eq_false h2
  rw [hpl] at h2
  obtain rfl:k=n.pipes.length:=by omega
  refine ⟨[2,4,8,9,62,63,64],4,[],fun σ=>∃ i:Nat,i≤n.tanks.length ∧
   σ=⟨[(2,.list 1 (wanted.map encI)),(4,.loc 0 0),(8,.loc 1 0),(9,.loc 2 0),(62,.list 2 (n.tanks.map Tk.enc)),(63,.int .i64 (n.tanks.map Tk.enc).length),(64,.int .i64 i)],
    [.flat false n.enc,.flat false [.loc 3 0],.flat false [.int .i64 0],.flat false (.list 2 (n.tanks.map Tk.enc)::.list 3 (n.pipes.map Rp.enc)::.int .u64 ((setOf i n.keptB:Nat):Int)::.int .u64 0::opsK n.pipes.length blanks n.pipes.length)],.non⟩,
   fun σ=>(1000 - slotI 64 σ).toNat,rfl,⟨rfl,okB_net rfl (okAll_opsK _ n.pipes.length blanks _)⟩,⟨0,Nat.zero_le _,rfl⟩,?_⟩
  rintro σ ⟨i,hi,rfl⟩
  refine ⟨fun h3=>?_,fun h3=>?_⟩
  ·have h3:=of_decide_eq_true h3
   rw [htl] at h3
   have hi':i<n.tanks.length:=by omega
   have less:(1000 - ((i:Int)+1)).toNat<(1000 - (i:Int)).toNat:=by omega
   obtain ⟨t,ht⟩:∃ t,n.tanks[i]'hi'=t:=⟨_,rfl⟩
   have hgt:n.tanks[i]?=some t:=by rw [List.getElem?_eq_getElem hi',ht]
   have hrow:(n.tanks.map Tk.enc)[((i:Int)).toNat]?=some t.enc:=by simp [hi',ht]
   have hkb:n.keptB i=t.kept:=by unfold Nt.keptB;rw [hgt]
   refine ⟨by omega,_,hrow,?_⟩
   refine ⟨fun h4=>?_,fun h4=>?_⟩
   ·have h4:t.kept=true:=h4
    refine Or.inl ⟨by kernel_rfl,?_⟩
    refine ⟨_,rfl,_,den57 i (by omega),?_⟩
    refine ⟨_,bits_or (setOf_lt62 _ (by omega)) (pow_lt62 (by omega)),?_⟩
    refine ⟨(i:Int)+1,wrap64 (by omega) (by omega),?_⟩
    exact ⟨⟨rfl,okB_net rfl (okAll_opsK _ n.pipes.length blanks _)⟩,⟨i+1,hi',by rw [← setOf_or (hkb.trans h4)];rfl⟩,less⟩
   ·have h4:t.kept=false:=h4
    refine ⟨(i:Int)+1,wrap64 (by omega) (by omega),?_⟩
    exact ⟨⟨rfl,okB_net rfl (okAll_opsK _ n.pipes.length blanks _)⟩,⟨i+1,hi',by rw [← setOf_skip (hkb.trans h4)];rfl⟩,less⟩
  have h3:=of_decide_eq_false h3
  rw [htl] at h3
  obtain rfl:i=n.tanks.length:=by omega
  refine ⟨[8,9,81,82,83],4,[],fun σ=>∃ j:Nat,j≤wanted.length ∧
   σ=⟨[(8,.loc 1 0),(9,.loc 2 0),(81,.list 1 (wanted.map encI)),(82,.int .i64 (wanted.map encI).length),(83,.int .i64 j)],
    [.flat false n.enc,.flat false [.loc 3 0],.flat false [.int .i64 0],.flat false (.list 2 (n.tanks.map Tk.enc)::.list 3 (n.pipes.map Rp.enc)::.int .u64 ((setOf n.tanks.length n.keptB:Nat):Int)::.int .u64 ((wantN wanted j:Nat):Int)::opsK n.pipes.length blanks n.pipes.length)],.non⟩,
   fun σ=>((wanted.length:Int) - slotI 83 σ).toNat,rfl,⟨rfl,okB_net rfl (okAll_opsK _ n.pipes.length blanks _)⟩,⟨0,Nat.zero_le _,rfl⟩,?_⟩
  rintro σ ⟨j,hj,rfl⟩
  have hwlen:((wanted.map encI).length:Int)=wanted.length:=by simp
  refine ⟨fun h4=>?_,fun h4=>?_⟩
  ·have h4:=of_decide_eq_true h4
   rw [hwlen] at h4
   have hj':j<wanted.length:=by omega
   have less:((wanted.length:Int) - ((j:Int)+1)).toNat<((wanted.length:Int) - (j:Int)).toNat:=by omega
   have hrow:=encI_get hj'
   obtain ⟨v,hv⟩:∃ v,wanted[j]'hj'=v:=⟨_,rfl⟩
   rw [hv] at hrow
   have hgv:wanted[j]?=some v:=by rw [List.getElem?_eq_getElem hj',hv]
   have hin:=hin v (List.mem_of_getElem? hgv)
   obtain ⟨m,rfl⟩:∃ m:Nat,v=m:=⟨v.toNat,by omega⟩
   have hstep:wantN wanted (j+1)=wantN wanted j ||| 2^m:=by
    show (match wanted[j]? with | some v=>_ | none=>_)=_
    rw [hgv];rfl
   have hlt:=wantN_lt hin7 j
   refine ⟨by omega,_,hrow,?_⟩
   refine Or.inl ⟨by kernel_rfl,?_⟩
   refine ⟨_,rfl,_,den57 m (by omega),?_⟩
   refine ⟨_,bits_or (by omega) (pow_lt62 (by omega)),?_⟩
   refine ⟨(j:Int)+1,wrap64 (by omega) (by omega),?_⟩
   exact ⟨⟨rfl,okB_net rfl (okAll_opsK _ n.pipes.length blanks _)⟩,⟨j+1,hj',by rw [hstep];rfl⟩,less⟩
  have h4:=of_decide_eq_false h4
  rw [hwlen] at h4
  obtain rfl:j=wanted.length:=by omega
  refine ⟨⟨_,_,rfl,rfl⟩,?_⟩
  rw [look_enc hok]
  exact reify_tup (mapO_cons (reify_loc rfl (mapO_cons rfl (mapO_cons rfl (mapO_cons rfl (mapO_cons rfl (mapO_ops (many:=n.pipes.length) (blanks:=blanks))))))) (mapO_cons rfl rfl))

end Go.Proofs.Vent

namespace Go.Proofs.Vent
open Go.V Go.Proofs

def Sub (X Y:Nat):Prop:=∀ i,X.testBit i=true→Y.testBit i=true
theorem Sub.refl (X:Nat):Sub X X:=fun _ h=>h
theorem Sub.trans {X Y Z:Nat} (h:Sub X Y) (k:Sub Y Z):Sub X Z:=fun i hi=>k i (h i hi)
theorem Sub.antisymm {X Y:Nat} (h:Sub X Y) (k:Sub Y X):X=Y:=by
 apply Nat.eq_of_testBit_eq
 intro i
 cases hx:X.testBit i with
 | true=>rw [h i hx]
 | false =>
  cases hy:Y.testBit i with
  | false=>rfl
  | true=>rw [k i hy] at hx;cases hx
theorem bit_lt {X v:Nat} {n:Nat} (hX:X<2^n) (h:X.testBit v=true):v<n:=by
 by_cases hv:v<n
 ·exact hv
 ·have:X.testBit v=false:=Nat.testBit_lt_two_pow (Nat.lt_of_lt_of_le hX (Nat.pow_le_pow_right (by decide) (by omega)))
  rw [this] at h;cases h

def NetL.adj (n:NetL) (u v:Nat):Prop:=∃ i p,n.pipes[i]?=some p∧n.opN i=true∧((p.fr=u∧p.to=v)∨(p.fr=v∧p.to=u))
theorem NetL.adj_symm {n:NetL} {u v:Nat} (h:n.adj u v):n.adj v u:=by
 obtain ⟨i,p,h1,h2,h3⟩:=h
 exact ⟨i,p,h1,h2,h3.symm⟩
theorem NetL.adj_lt {n:NetL} (hn:n.Ok) {u v:Nat} (h:n.adj u v):u<n.tanks.length∧v<n.tanks.length:=by
 obtain ⟨i,p,h1,h2,h3⟩:=h
 have:=hn.pe p (List.mem_of_getElem? h1)
 omega
inductive NetL.Con (n:NetL):Nat→Nat→Prop
 | refl (u:Nat):NetL.Con n u u
 | step {u v w:Nat}:NetL.Con n u v→n.adj v w→NetL.Con n u w
theorem NetL.Con.trans {n:NetL} {u v w:Nat} (h:n.Con u v) (k:n.Con v w):n.Con u w:=by
 induction k with
 | refl=>exact h
 | step _ h2 ih=>exact .step ih h2
theorem NetL.Con.symm {n:NetL} {u v:Nat} (h:n.Con u v):n.Con v u:=by
 induction h with
 | refl=>exact .refl _
 | step _ h2 ih=>exact NetL.Con.trans (.step (.refl _) (NetL.adj_symm h2)) ih
theorem NetL.Con.closed {n:NetL} {X:Nat→Prop} (hX:∀ u v,X u→n.adj u v→X v) {u v:Nat} (h:n.Con u v) (hu:X u):X v:=by
 induction h with
 | refl=>exact hu
 | step _ h2 ih=>exact hX _ _ ih h2

theorem or_bit (a b i:Nat):(a ||| b).testBit i=(a.testBit i || b.testBit i):=Nat.testBit_or ..
theorem and_bit (a b i:Nat):(a &&& b).testBit i=(a.testBit i && b.testBit i):=Nat.testBit_and ..

theorem NetL.passN_succ (n:NetL) (s k:Nat):n.passN s (k+1)=match n.pipes[k]? with
    | none=>n.passN s k
    | some p=>if (n.opN k && ((n.passN s k).testBit p.fr || (n.passN s k).testBit p.to))=true then n.passN s k ||| (2^p.fr ||| 2^p.to) else n.passN s k:=rfl
theorem NetL.passN_up (n:NetL) (s k:Nat):Sub (n.passN s k) (n.passN s (k+1)):=by
 intro i hi
 rw [n.passN_succ]
 cases hp:n.pipes[k]? with
 | none=>exact hi
 | some p =>
  simp only
  split
  ·rw [or_bit,hi];rfl
  ·exact hi
theorem NetL.passN_ups (n:NetL) (s:Nat) {k:Nat}:∀ {m:Nat},k≤m→Sub (n.passN s k) (n.passN s m)
 | 0, h => by obtain rfl : k = 0 := by omega
              exact .refl _
 | m+1,h=>by
  by_cases e:k=m+1
  ·subst e;exact .refl _
  ·exact (n.passN_ups s (m:=m) (by omega)).trans (n.passN_up s m)
theorem NetL.pass_sup (n:NetL) (s:Nat):Sub s (n.pass s):=n.passN_ups s (k:=0) (Nat.zero_le _)
theorem NetL.pass_closed {n:NetL} {t:Nat} (h:n.pass t=t) {u v:Nat} (hu:t.testBit u=true) (ha:n.adj u v):t.testBit v=true:=by
 obtain ⟨i,p,hp,ho,he⟩:=ha
 have hil:i<n.pipes.length:=(List.getElem?_eq_some_iff.1 hp).1
 have e:∀ k,k≤n.pipes.length→n.passN t k=t:=fun k hk=>by
  have h1:=n.passN_ups t (k:=0) (m:=k) (Nat.zero_le _)
  have h2:=n.passN_ups t (k:=k) (m:=n.pipes.length) hk
  have h3:n.passN t n.pipes.length=t:=h
  rw [h3] at h2
  exact h2.antisymm h1
 have h4:=e (i+1) (by omega)
 rw [n.passN_succ,hp,e i (by omega)] at h4
 simp only at h4
 have hb:(t.testBit p.fr || t.testBit p.to)=true:=by rcases he with ⟨rfl,rfl⟩ | ⟨rfl,rfl⟩ <;> simp [hu]
 rw [if_pos (by rw [ho,hb];rfl)] at h4
 rw [← h4,or_bit,or_bit,pow_bit,pow_bit]
 rcases he with ⟨rfl,rfl⟩ | ⟨rfl,rfl⟩ <;> simp
theorem NetL.passN_con (n:NetL) (s:Nat):∀ (k v:Nat),(n.passN s k).testBit v=true→∃ u,s.testBit u=true∧n.Con u v
 | 0,v,h=>⟨v,h,.refl v⟩
 | k+1,v,h=>by
  rw [n.passN_succ] at h
  cases hp:n.pipes[k]? with
  | none=>rw [hp] at h;exact n.passN_con s k v h
  | some p =>
   rw [hp] at h
   simp only at h
   split at h
   ·rename_i hc
    rw [Bool.and_eq_true,Bool.or_eq_true] at hc
    rw [or_bit,or_bit,pow_bit,pow_bit,Bool.or_eq_true,Bool.or_eq_true,decide_eq_true_iff,decide_eq_true_iff] at h
    have ha:n.adj p.fr p.to:=⟨k,p,hp,hc.1,.inl ⟨rfl,rfl⟩⟩
    rcases h with h | rfl | rfl
    ·exact n.passN_con s k v h
    ·rcases hc.2 with h2 | h2
     ·exact n.passN_con s k _ h2
     ·obtain ⟨u,h3,h4⟩:=n.passN_con s k _ h2
      exact ⟨u,h3,.step h4 (NetL.adj_symm ha)⟩
    ·rcases hc.2 with h2 | h2
     ·obtain ⟨u,h3,h4⟩:=n.passN_con s k _ h2
      exact ⟨u,h3,.step h4 ha⟩
     ·exact n.passN_con s k _ h2
   ·exact n.passN_con s k v h
theorem NetL.joinF_con (n:NetL):∀ (r t v:Nat),(n.joinF r t).testBit v=true→∃ u,t.testBit u=true∧n.Con u v
 | 0,t,v,h=>⟨v,h,.refl v⟩
 | r+1,t,v,h=>by
  unfold NetL.joinF at h
  split at h
  ·exact ⟨v,h,.refl v⟩
  ·obtain ⟨u,h1,h2⟩:=n.joinF_con r _ v h
   obtain ⟨u',h3,h4⟩:=n.passN_con t _ u h1
   exact ⟨u',h3,h4.trans h2⟩
theorem NetL.joinF_sup (n:NetL):∀ (r t:Nat),Sub t (n.joinF r t)
 | 0,t=>.refl t
 | r+1,t=>by
  unfold NetL.joinF
  split
  ·exact .refl t
  ·exact (n.pass_sup t).trans (n.joinF_sup r _)
theorem NetL.joinF_fixed {n:NetL} (h:n.Ok):∀ (r t:Nat),t<2^7→128≤r+t→n.pass (n.joinF r t)=n.joinF r t
 | 0,t,ht,hr=>by omega
 | r+1,t,ht,hr=>by
  unfold NetL.joinF
  split
  ·assumption
  ·rename_i hne
   have h1:=n.pass_ge t n.pipes.length
   have h2:n.passN t n.pipes.length≠t:=hne
   exact n.joinF_fixed h r _ (n.pass_lt h ht _) (by show 128≤r+n.passN t n.pipes.length;omega)
theorem NetL.joined_iff {n:NetL} (h:n.Ok) {s:Nat} (hs:s<2^7) (v:Nat):(n.joined s).testBit v=true↔∃ u,s.testBit u=true∧n.Con u v:=by
 refine ⟨n.joinF_con 128 s v,?_⟩
 rintro ⟨u,hu,hc⟩
 exact hc.closed (X:=fun v=>(n.joined s).testBit v=true) (fun u v hu ha=>NetL.pass_closed (n.joinF_fixed h 128 s hs (by omega)) hu ha) (n.joinF_sup 128 s u hu)

def NetL.Shut (n:NetL) (b X:Nat):Prop:=∀ u v,X.testBit u=true→b.testBit u=false→n.adj u v→X.testBit v=true

theorem NetL.spN_succ (n:NetL) (f b k:Nat):n.spN f b (k+1)=match n.pipes[k]? with
    | none=>n.spN f b k
    | some p=>if (!(n.opN k) || ((n.spN f b k).testBit p.fr==(n.spN f b k).testBit p.to))=true then n.spN f b k else diff (n.spN f b k) (diff (n.spN f b k &&& (2^p.fr ||| 2^p.to)) b):=rfl
theorem NetL.spN_down (n:NetL) (f b k:Nat):Sub (n.spN f b (k+1)) (n.spN f b k):=by
 intro i hi
 rw [n.spN_succ] at hi
 cases hp:n.pipes[k]? with
 | none=>rw [hp] at hi;exact hi
 | some p =>
  rw [hp] at hi
  simp only at hi
  split at hi
  ·exact hi
  ·rw [diff_bit,Bool.and_eq_true] at hi;exact hi.1
theorem NetL.spN_downs (n:NetL) (f b:Nat) {k:Nat}:∀ {m:Nat},k≤m→Sub (n.spN f b m) (n.spN f b k)
 | 0, h => by obtain rfl : k = 0 := by omega
              exact .refl _
 | m+1,h=>by
  by_cases e:k=m+1
  ·subst e;exact .refl _
  ·exact (n.spN_down f b m).trans (n.spN_downs f b (m:=m) (by omega))
theorem NetL.spN_shut {n:NetL} {b X:Nat} (hX:n.Shut b X) {f:Nat} (hf:Sub X f):∀ k,Sub X (n.spN f b k)
 | 0=>hf
 | k+1=>by
  have ih:=NetL.spN_shut hX hf k
  intro i hi
  rw [n.spN_succ]
  cases hp:n.pipes[k]? with
  | none=>exact ih i hi
  | some p =>
   simp only
   split
   ·exact ih i hi
   ·rename_i hc
    rw [Bool.not_eq_true,Bool.or_eq_false_iff] at hc
    obtain ⟨ho,hne⟩:=hc
    have ho:n.opN k=true:=by simpa using ho
    have ha:n.adj p.fr p.to:=⟨k,p,hp,ho,.inl ⟨rfl,rfl⟩⟩
    rw [diff_bit,diff_bit,and_bit,or_bit,pow_bit,pow_bit,ih i hi]
    cases hb:b.testBit i with
    | true=>simp
    | false =>
     simp only [Bool.true_and,Bool.not_false,Bool.and_true,Bool.not_eq_true',Bool.or_eq_false_iff,decide_eq_false_iff_not]
     refine ⟨fun e=>?_,fun e=>?_⟩
     ·subst e
      rw [ih _ hi,ih _ (hX _ _ hi hb ha)] at hne
      exact absurd hne (by decide)
     ·subst e
      rw [ih _ hi,ih _ (hX _ _ hi hb (NetL.adj_symm ha))] at hne
      exact absurd hne (by decide)
theorem NetL.sp_closed {n:NetL} {f b:Nat} (h:n.sp f b=f):n.Shut b f:=by
 rintro u v hu hb ⟨i,p,hp,ho,he⟩
 have hil:i<n.pipes.length:=(List.getElem?_eq_some_iff.1 hp).1
 have e:∀ k,k≤n.pipes.length→n.spN f b k=f:=fun k hk=>by
  have h1:=n.spN_downs f b (k:=0) (m:=k) (Nat.zero_le _)
  have h2:=n.spN_downs f b (k:=k) (m:=n.pipes.length) hk
  have h3:n.spN f b n.pipes.length=f:=h
  rw [h3] at h2
  exact h1.antisymm h2
 have h4:=e (i+1) (by omega)
 rw [n.spN_succ,hp,e i (by omega)] at h4
 simp only at h4
 cases hv:f.testBit v with
 | true=>rfl
 | false =>
  have hne:(f.testBit p.fr==f.testBit p.to)=false:=by rcases he with ⟨rfl,rfl⟩ | ⟨rfl,rfl⟩ <;> simp [hu,hv]
  rw [if_neg (by rw [ho,hne];decide)] at h4
  have h5:(diff f (diff (f &&& (2^p.fr ||| 2^p.to)) b)).testBit u=true:=by rw [h4];exact hu
  rw [diff_bit,diff_bit,and_bit,or_bit,pow_bit,pow_bit,hu,hb] at h5
  rcases he with ⟨rfl,rfl⟩ | ⟨rfl,rfl⟩ <;> simp at h5
theorem NetL.spreadF_sub (n:NetL) (b:Nat):∀ (r f:Nat),Sub (n.spreadF r f b) f
 | 0,f=>.refl f
 | r+1,f=>by
  unfold NetL.spreadF
  split
  ·exact .refl f
  ·exact (n.spreadF_sub b r _).trans (n.spN_downs f b (k:=0) (m:=n.pipes.length) (Nat.zero_le _))
theorem NetL.spreadF_shut {n:NetL} {b X:Nat} (hX:n.Shut b X):∀ (r f:Nat),Sub X f→Sub X (n.spreadF r f b)
 | 0,f,h=>h
 | r+1,f,h=>by
  unfold NetL.spreadF
  split
  ·exact h
  ·exact NetL.spreadF_shut hX r _ (NetL.spN_shut hX h _)
theorem NetL.spreadF_fixed {n:NetL} {b:Nat}:∀ (r f:Nat),f<r→n.sp (n.spreadF r f b) b=n.spreadF r f b
 | 0,f,h=>by omega
 | r+1,f,h=>by
  unfold NetL.spreadF
  split
  ·assumption
  ·rename_i hne
   have h1:=n.spN_le f b n.pipes.length
   have h2:n.spN f b n.pipes.length≠f:=hne
   exact NetL.spreadF_fixed r _ (by show n.spN f b n.pipes.length<r;omega)
theorem NetL.spread_sub (n:NetL) (f b:Nat):Sub (n.spread f b) f:=n.spreadF_sub b 128 f
theorem NetL.spread_closed {n:NetL} {f:Nat} (hf:f<2^7) (b:Nat):n.Shut b (n.spread f b):=NetL.sp_closed (NetL.spreadF_fixed 128 f (by omega))
theorem NetL.spread_most {n:NetL} {f b X:Nat} (hX:n.Shut b X) (h:Sub X f):Sub X (n.spread f b):=NetL.spreadF_shut hX 128 f h

end Go.Proofs.Vent
