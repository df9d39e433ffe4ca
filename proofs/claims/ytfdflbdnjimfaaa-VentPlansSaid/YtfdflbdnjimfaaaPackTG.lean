/- The arguments of the statements. No condition. -/
import Derived.Test.YtfdflbdnjimfaaaPackTC
import Derived.Test.YtfdflbdnjimfaaaPackTE
import Derived.Test.YtfdflbdnjimfaaaPackUL

namespace Go.Proofs.Vent
open Go.V Go.Proofs

theorem Try.own:ownKnob Try.prog.godebug=none:=by kernel_rfl
theorem Try.laidOut:laidOutB Try.prog=true:=by kernel_rfl
theorem hgl (W:World):glbI.le (allOf W):=fun _ _ _ h=>by cases h
theorem cells84:Try.prog.cellsOf 84=2:=by kernel_rfl
theorem cells79:Try.prog.cellsOf 79=3:=by kernel_rfl
theorem cells3:Try.prog.cellsOf 3=1:=by kernel_rfl
theorem cells26:Try.prog.cellsOf 26=1:=by kernel_rfl
theorem len62 {n:Nat} (h:n≤maxLen):n<9223372036854775808:=by unfold maxLen at h;omega

theorem u8_of {m:Int} (h:(Lit.int .u8 m).wf=true):∃ b:Nat,m=b∧b<256:=by
 have h1:decide (IntKind.u8.min≤m)=true∧decide (m≤IntKind.u8.max)=true:=by simpa only [Lit.wf,Bool.and_eq_true] using h
 rw [decide_eq_true_eq,decide_eq_true_eq] at h1
 have e1:IntKind.u8.min=0:=by decide
 have e2:IntKind.u8.max=255:=by decide
 rw [e1,e2] at h1
 exact ⟨m.toNat,by omega,by omega⟩
set_option maxRecDepth 100000 in
theorem tk_of {n:Nat} {ds:List D} (h:WT Try.prog (n+2) 84 ds):∃ t:Tk,ds=t.enc:=by
 obtain ⟨a,r,rfl,_,ha,c,r2,rfl,_,hc,rfl⟩:=wt_struct Try.underlying84 h
 obtain ⟨l,rfl,_⟩:=wt_string Try.underlying9 ha
 obtain ⟨u,rfl⟩:=wt_bool Try.underlying4 hc
 exact ⟨⟨l,u⟩,rfl⟩
set_option maxRecDepth 100000 in
theorem rp_of {n:Nat} {ds:List D} (h:WT Try.prog (n+2) 79 ds):∃ p:Rp,ds=p.enc:=by
 obtain ⟨a,r,rfl,_,ha,c,r2,rfl,_,hc,e,r3,rfl,_,he,rfl⟩:=wt_struct Try.underlying79 h
 obtain ⟨x,rfl,_⟩:=wt_int Try.underlying3 ha
 obtain ⟨y,rfl,_⟩:=wt_int Try.underlying3 hc
 obtain ⟨z,rfl⟩:=wt_bool Try.underlying4 he
 exact ⟨⟨x,y,z⟩,rfl⟩
set_option maxRecDepth 100000 in
theorem net_of {n:Nat} {d:D} (h:WA Try.prog (n+5) 25 d):∃ t:Nt,d=.agg t.enc:=by
 obtain ⟨ds,rfl,g⟩:=wa_struct Try.underlying25 h
 obtain ⟨a,r,rfl,_,ha,c,r2,rfl,_,hc,rfl⟩:=wt_struct Try.underlying25 g
 obtain ⟨rows,rfl,_,hr⟩:=wt_slice Try.underlying22 ha
 obtain ⟨rows',rfl,_,hr'⟩:=wt_slice Try.underlying23 hc
 rw [cells84,cells79]
 obtain ⟨l,rfl,_⟩:=rows_map (enc:=Tk.enc) (p:=fun _=>True) fun row hrow=>by
  obtain ⟨t,ht⟩:=tk_of (hr row hrow).2
  exact ⟨t,ht,trivial⟩
 obtain ⟨l',rfl,_⟩:=rows_map (enc:=Rp.enc) (p:=fun _=>True) fun row hrow=>by
  obtain ⟨t,ht⟩:=rp_of (hr' row hrow).2
  exact ⟨t,ht,trivial⟩
 exact ⟨⟨l,l'⟩,rfl⟩
set_option maxRecDepth 100000 in
theorem intsT_of {n:Nat} {ds:List D} (h:WT Try.prog (n+3) 26 ds):∃ l:List Int,ds=[.list 1 (l.map encI)]∧l.length≤maxLen:=by
 obtain ⟨rows,rfl,hl,hr⟩:=wt_slice Try.underlying26 h
 rw [cells3]
 obtain ⟨l,rfl,_⟩:=rows_map (enc:=encI) (p:=fun _=>True) fun row hrow=>by
  obtain ⟨t,ht,_⟩:=wt_int Try.underlying3 (hr row hrow).2
  exact ⟨t,ht,trivial⟩
 exact ⟨l,rfl,by simpa using hl⟩
set_option maxRecDepth 100000 in
theorem ways_of {n:Nat} {d:D} (h:WA Try.prog (n+5) 43 d):∃ l:List (List Int),d=.list 1 (l.map encW)∧l.length≤maxLen∧∀ w∈l,w.length≤maxLen:=by
 obtain ⟨rows,rfl,hl,hr⟩:=wa_slice Try.underlying43 h
 rw [cells26]
 obtain ⟨l,rfl,hp⟩:=rows_map (enc:=encW) (p:=fun w=>w.length≤maxLen) fun row hrow=>intsT_of (hr row hrow).2
 exact ⟨l,rfl,by simpa using hl,hp⟩
def askD (bl wt:List Int) (k:Int):D:=.agg [.list 1 (bl.map encI),.list 1 (wt.map encI),.int .i64 k]
set_option maxRecDepth 100000 in
theorem asked_of {n:Nat} {d:D} (h:WA Try.prog (n+5) 42 d):∃ (bl wt:List Int) (k:Int),d=askD bl wt k∧bl.length≤maxLen∧wt.length≤maxLen:=by
 obtain ⟨ds,rfl,g⟩:=wa_struct Try.underlying42 h
 obtain ⟨a,r,rfl,_,ha,c,r2,rfl,_,hc,e,r3,rfl,_,he,rfl⟩:=wt_struct Try.underlying42 g
 obtain ⟨bl,rfl,hb⟩:=intsT_of ha
 obtain ⟨wt,rfl,hw⟩:=intsT_of hc
 obtain ⟨k,rfl,_⟩:=wt_int Try.underlying3 he
 exact ⟨bl,wt,k,rfl,hb,hw⟩
theorem cells5:Try.prog.cellsOf 5=1:=by kernel_rfl
set_option maxRecDepth 100000 in
theorem bytes_of {n:Nat} {d:D} (h:WA Try.prog (n+5) 69 d):∃ l:List Nat,d=.list 1 (l.map fun b:Nat=>[D.int .u8 (b:Int)])∧l.length≤maxLen∧∀ b∈l,b<256:=by
 obtain ⟨rows,rfl,hl,hr⟩:=wa_slice Try.underlying69 h
 rw [cells5]
 obtain ⟨l,rfl,hp⟩:=rows_map (enc:=fun b:Nat=>[D.int .u8 (b:Int)]) (p:=fun b=>b<256) fun row hrow=>by
  obtain ⟨t,ht,hw⟩:=wt_int Try.underlying5 (hr row hrow).2
  obtain ⟨b,rfl,hb⟩:=u8_of hw
  exact ⟨b,ht,hb⟩
 exact ⟨l,rfl,by simpa using hl,hp⟩

end Go.Proofs.Vent
