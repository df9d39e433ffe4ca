/- Abstract values, the abstract state of a frame, and the weakest precondition W of the model's code over them. No condition. -/
import GoSem.Core.Machine
import GoSem.Dispatch
import Derived.CallsIn
import Derived.Laws.Entries

namespace Go.V

inductive D where
 | und
 | tt
 | ff
 | bool (b:Bool)
 | int (k:IntKind) (n:Int)
 | str (s:ByteArray)
 | agg (cs:List D)
 | tup (cs:List D)
 | nilp
 | loc (i off:Nat)
 | aloc (i off:Nat)
 | rloc (i g r off:Nat)
 | ro (cs:List D)
 | list (sz:Nat) (rows:List (List D))
 | nils
 | sl (i g off len:Nat)
 | clo (fn:Fn) (first captured:List D)
 | nilf
 | skp
 | yld (l:Nat)
 | nilm
 | mloc (i:Nat)
 | mro (ks vs:List D)
 | sit (i:Nat)
 | asl (i len:Nat)
 | gp (g off:Nat)
 | gmap (ks vs:List D)

instance:Inhabited D:=⟨.und⟩

inductive Box where
 | flat (fz:Bool) (cells:List D)
 | rows (fz:Bool) (g sz:Nat) (rs:List (List D))
 | map (fz:Bool) (ks vs:List D)
 | siter (fz:Bool) (s:ByteArray) (pos:Nat)
 | miter (fz:Bool) (i:Nat) (ks vs:List D) (seen:List Nat)

instance:Inhabited Box:=⟨.flat true []⟩

def Box.freeze:Box→Box
 | .flat _ cs=>.flat true cs
 | .rows _ g sz rs=>.rows true g sz rs
 | .map _ ks vs=>.map true ks vs
 | .siter _ s pos=>.siter true s pos
 | .miter _ i ks vs seen=>.miter true i ks vs seen

def Box.fz:Box→Bool
 | .flat f _=>f
 | .rows f _ _ _=>f
 | .map f _ _=>f
 | .siter f _ _=>f
 | .miter f _ _ _ _=>f

def noFz:List Box→Bool
 | []=>true
 | b::r=>match b.fz with | true=>false | false=>noFz r

structure TI where
 desc:TypeDesc
 agg:Bool
 size:Nat
 bytes:Nat
 zero:List D
 eqs:Bool

inductive Yst where
 | non
 | rem (l:Nat) (xs:List (List D))
 | stopped

structure St where
 tmps:List (Nat × D)
 boxes:List Box
 y:Yst

def look:List (Nat × D)→Nat→Option D
 | [],_=>none
 | (k,d)::r,t=>match Nat.beq k t with
  | true=>some d
  | false=>look r t

def St.put (σ:St) (dst:Option Nat) (d:D):St :=
 match dst with
 | none=>σ
 | some t=>⟨(t,d)::σ.tmps,σ.boxes,σ.y⟩

def ofConst:Value→Option D
 | .bool true=>some .tt
 | .bool false=>some .ff
 | .int k n=>some (.int k n)
 | .string s=>some (.str s)
 | .pointer none=>some .nilp
 | .slice none 0 0=>some .nils
 | .nilFunc=>some .nilf
 | .map none=>some .nilm
 | _=>none

def St.ev (σ:St):Operand→Option D
 | .tmp t=>look σ.tmps t
 | .const v=>ofConst v
 | .func f=>some (.clo (.func f) [] [])
 | .global g=>some (.gp g 0)

def St.evL (σ:St):List Operand→Option (List D)
 | []=>some []
 | x::r=>match σ.ev x with
  | none=>none
  | some d=>match σ.evL r with
   | none=>none
   | some l=>some (d::l)

def cellsOf:D→Option (List D)
 | .und | .tup _ | .skp=>none
 | .agg cs=>some cs
 | d=>some [d]

def splice (cs:List D) (off:Nat) (ds:List D):List D:=cs.take off++(ds++cs.drop (off+ds.length))

def fits (cs:List D) (off n:Nat):Bool:=Nat.ble (off+n) cs.length

def D.free:D→Bool
 | .tt | .ff | .bool _ | .int _ _ | .str _ | .nilp | .ro _ | .list _ _ | .nils | .nilf | .nilm | .mro _ _=>true
 | _=>false

def allFree:List D→Bool
 | []=>true
 | d::r=>match d.free with | true=>allFree r | false=>false

mutual
def okAt (nb:Nat):D→Bool
 | .agg cs | .tup cs=>okAll nb cs
 | .clo _ fs cs=>match okAll nb fs with | true=>okAll nb cs | false=>false
 | .loc i _ | .aloc i _ | .rloc i _ _ _ | .sl i _ _ _ | .mloc i | .sit i | .asl i _=>Nat.blt i nb
 | _=>true
def okAll (nb:Nat):List D→Bool
 | []=>true
 | d::r=>match okAt nb d with | true=>okAll nb r | false=>false
end

def okTmps (nb:Nat):List (Nat × D)→Bool
 | []=>true
 | (_,d)::r=>match okAt nb d with | true=>okTmps nb r | false=>false

def okBoxes (nb:Nat):List Box→Bool
 | []=>true
 | .flat _ cs::r=>match okAll nb cs with | true=>okBoxes nb r | false=>false
 | .rows ..::r=>okBoxes nb r
 | .map ..::r=>okBoxes nb r
 | .siter ..::r=>okBoxes nb r
 | .miter _ i _ _ _::r=>match Nat.blt i nb with | true=>okBoxes nb r | false=>false

mutual
def plain:D→Bool
 | .agg cs | .tup cs=>plainAll cs
 | .clo _ fs cs=>match plainAll fs with | true=>plainAll cs | false=>false
 | .und | .tt | .ff | .bool _ | .int _ _ | .str _ | .nilp | .nils | .nilf | .nilm=>true
 | _=>false
def plainAll:List D→Bool
 | []=>true
 | d::r=>match plain d with | true=>plainAll r | false=>false
end

def mapO (f:D→Option D):List D→Option (List D)
 | []=>some []
 | d::r=>match f d with
  | none=>none
  | some x=>match mapO f r with
   | none=>none
   | some l=>some (x::l)

def reify (bs:List Box):Nat→D→Option D
 | 0,_=>none
 | n+1,d =>
  match d with
  | .und | .skp | .yld _ | .sit _ | .asl _ _ | .gmap _ _=>none
  | .tt=>some (.bool true)
  | .ff=>some (.bool false)
  | .agg cs=>match mapO (reify bs n) cs with | some l=>some (.agg l) | none=>none
  | .tup cs=>match mapO (reify bs n) cs with | some l=>some (.tup l) | none=>none
  | .loc i off | .aloc i off=>match bs[i]? with
   | some (.flat _ cells)=>match mapO (reify bs n) (cells.drop off) with | some l=>some (.ro l) | none=>none
   | _=>none
  | .rloc _ _ _ _=>none
  | .nils=>some (.list 0 [])
  | .mloc i=>match bs[i]? with
   | some (.map _ ks vs)=>some (.mro ks vs)
   | _=>none
  | .sl i g off len=>match bs[i]? with
   | some (.rows _ g' sz rs)=>match Nat.beq g g' with
    | true=>some (.list sz ((rs.drop off).take len))
    | false=>none
   | _=>none
  | .clo fn fs cs=>match mapO (reify bs n) fs with
   | none=>none
   | some l=>match mapO (reify bs n) cs with
    | none=>none
    | some m=>some (.clo fn l m)
  | d=>some d

def touch (bs:List Box):Nat→D→List Nat
 | 0,_=>[]
 | n+1,d =>
  match d with
  | .agg cs | .tup cs=>cs.flatMap (touch bs n)
  | .clo _ fs cs=>fs.flatMap (touch bs n)++cs.flatMap (touch bs n)
  | .loc i off | .aloc i off=>i::(match bs[i]? with
   | some (.flat _ cells)=>(cells.drop off).flatMap (touch bs n)
   | _=>[])
  | .rloc i _ _ _ | .sl i _ _ _ | .mloc i | .sit i | .asl i _=>[i]
  | _=>[]

def fuel:Nat:=8

def reifyL (bs:List Box) (l:List D):Option (List D):=mapO (reify bs fuel) l

def freezeIn:List Box→Nat→List Nat→List Box
 | [],_,_=>[]
 | b::r,i,l=>(match l.contains i with | true=>b.freeze | false=>b)::freezeIn r (i+1) l

def boxesAfter (bs:List Box) (d:D) (args:List D):List Box :=
 match plain d with
 | true=>bs
 | false=>freezeIn bs 0 (args.flatMap (touch bs fuel))

structure Ctr where
 den:Nat→List D→D→Prop
 shr:Nat→List D→List Box→Yst→(D→List Box→Yst→Prop)→Prop
 sh:Nat→Bool
 new:Nat→List D→Box→Prop
 nw:Nat→Bool
 gt:Nat→Nat→Option (IntKind × Int)
 pan:Nat→List D→Option Value→Prop

structure Itr where
 it:Nat→List D→List (List D)→Prop
 itx:Nat→List D→List Box→List (List D)→Prop
 sh:Nat→Bool

mutual
def ren (f:Nat→Nat):D→D
 | .agg cs=>.agg (renL f cs)
 | .tup cs=>.tup (renL f cs)
 | .clo fn fs cs=>.clo fn (renL f fs) (renL f cs)
 | .loc i off=>.loc (f i) off
 | .aloc i off=>.aloc (f i) off
 | .rloc i g r off=>.rloc (f i) g r off
 | .sl i g off len=>.sl (f i) g off len
 | .mloc i=>.mloc (f i)
 | .sit i=>.sit (f i)
 | .asl i n=>.asl (f i) n
 | d=>d
def renL (f:Nat→Nat):List D→List D
 | []=>[]
 | d::r=>ren f d::renL f r
end

def Box.ren (f:Nat→Nat):Box→Box
 | .flat fz cs=>.flat fz (renL f cs)
 | .rows fz g sz rs=>.rows fz g sz rs
 | .map fz ks vs=>.map fz ks vs
 | .siter fz s pos=>.siter fz s pos
 | .miter fz i ks vs seen=>.miter fz (f i) ks vs seen

def mkOf:Box→Nat→D
 | .map _ _ _,i=>.mloc i
 | .rows _ g _ rs,i=>.sl i g 0 rs.length
 | _,_=>.und
def newOK:Box→Bool
 | .map false ks vs=>match plainAll ks with | true=>plainAll vs | false=>false
 | .rows false _ _ rs=>rs.all plainAll
 | _=>false

def selF (sel:List Nat) (n i:Nat):Nat:=match sel[i]? with | some j=>j | none=>n+(i - sel.length)

def distinctB:List Nat→Bool
 | []=>true
 | i::r=>match r.contains i with | true=>false | false=>distinctB r

def selOK (sel:List Nat) (n:Nat):Bool:=distinctB sel && sel.all fun i=>Nat.blt i n

def putSel:List Box→List Nat→List Box→List Box
 | bs,[],l=>bs++l
 | bs,i::sel,b::l=>putSel (bs.set i b) sel l
 | bs,_::_,[]=>bs

def getSel (bs:List Box):List Nat→List (Option Box)
 | []=>[]
 | i::r=>bs[i]?::getSel bs r

inductive Eff where
 | val (d:D)
 | resS (d:D) (bs:List Box) (y:Yst)
 | new (b:Box) (mk:Nat→D)
 | set (i:Nat) (b:Box) (d:D)
 | res (d:D) (args:List D)
 | yielded (b:Bool) (y:Yst)
 | newF (b:Box) (mk:Nat→D) (L:List Nat)
 | gave (b:Bool) (y:Yst) (nb:Nat)

def forceD (d:D) (k:D→Prop):Prop :=
 match d with
 | .und=>k .und
 | .tt=>k .tt
 | .ff=>k .ff
 | .bool b=>k (.bool b)
 | .int kd n=>k (.int kd n)
 | .str s=>k (.str s)
 | .agg cs=>k (.agg cs)
 | .tup cs=>k (.tup cs)
 | .nilp=>k .nilp
 | .loc i off=>k (.loc i off)
 | .aloc i off=>k (.aloc i off)
 | .rloc i g r off=>k (.rloc i g r off)
 | .ro cs=>k (.ro cs)
 | .list sz rows=>k (.list sz rows)
 | .nils=>k .nils
 | .sl i g off len=>k (.sl i g off len)
 | .clo fn fs cs=>k (.clo fn fs cs)
 | .nilf=>k .nilf
 | .skp=>k .skp
 | .yld l=>k (.yld l)
 | .nilm=>k .nilm
 | .mloc i=>k (.mloc i)
 | .mro ks vs=>k (.mro ks vs)
 | .sit i=>k (.sit i)
 | .asl i n=>k (.asl i n)
 | .gp g off=>k (.gp g off)
 | .gmap ks vs=>k (.gmap ks vs)

def forceL {α:Type}:List α→(List α→Prop)→Prop
 | [],k=>k []
 | a::r,k=>forceL r fun r=>k (a::r)

def litN (n:Nat) (k:Nat→Prop):Prop :=
 match n with
 | 0=>k 0
 | 1=>k 1
 | 2=>k 2
 | 3=>k 3
 | 4=>k 4
 | 5=>k 5
 | 6=>k 6
 | 7=>k 7
 | 8=>k 8
 | 9=>k 9
 | 10=>k 10
 | 11=>k 11
 | 12=>k 12
 | 13=>k 13
 | 14=>k 14
 | 15=>k 15
 | 16=>k 16
 | 17=>k 17
 | 18=>k 18
 | 19=>k 19
 | 20=>k 20
 | 21=>k 21
 | 22=>k 22
 | 23=>k 23
 | 24=>k 24
 | 25=>k 25
 | 26=>k 26
 | 27=>k 27
 | 28=>k 28
 | 29=>k 29
 | 30=>k 30
 | 31=>k 31
 | 32=>k 32
 | 33=>k 33
 | 34=>k 34
 | 35=>k 35
 | 36=>k 36
 | 37=>k 37
 | 38=>k 38
 | 39=>k 39
 | 40=>k 40
 | n=>k n

def forceBx:List Box→(List Box→Prop)→Prop
 | [],k=>k []
 | .flat fz cs::r,k=>forceBx r fun r=>k (.flat fz cs::r)
 | .rows fz g sz rs::r,k=>forceBx r fun r=>k (.rows fz g sz rs::r)
 | .map fz ks vs::r,k=>forceBx r fun r=>k (.map fz ks vs::r)
 | .siter fz s pos::r,k=>forceBx r fun r=>k (.siter fz s pos::r)
 | .miter fz i ks vs seen::r,k=>forceBx r fun r=>k (.miter fz i ks vs seen::r)

theorem forceD_eq (d:D) (k:D→Prop):forceD d k=k d:=by cases d <;> rfl
theorem forceL_eq {α:Type}:∀ (l:List α) (k:List α→Prop),forceL l k=k l
 | [],_=>rfl
 | a::r,k=>forceL_eq r fun r=>k (a::r)
theorem forceBx_eq:∀ (l:List Box) (k:List Box→Prop),forceBx l k=k l
 | [],_=>rfl
 | .flat fz cs::r,k=>forceBx_eq r fun r=>k (.flat fz cs::r)
 | .rows fz g sz rs::r,k=>forceBx_eq r fun r=>k (.rows fz g sz rs::r)
 | .map fz ks vs::r,k=>forceBx_eq r fun r=>k (.map fz ks vs::r)
 | .siter fz s pos::r,k=>forceBx_eq r fun r=>k (.siter fz s pos::r)
 | .miter fz i ks vs seen::r,k=>forceBx_eq r fun r=>k (.miter fz i ks vs seen::r)
theorem litN_eq (n:Nat) (k:Nat→Prop):litN n k=k n:=by unfold litN;split <;> rfl

def forceA (d:D) (k:D→Prop):Prop :=
 match d with
 | .agg cs=>forceL cs fun cs=>k (.agg cs)
 | d=>k d
theorem forceA_eq (d:D) (k:D→Prop):forceA d k=k d:=by
 cases d <;> first | rfl | exact forceL_eq _ _

def readAgg (cs:List D) (off n:Nat):Option D :=
 match fits cs off n with
 | true=>some (.agg ((cs.drop off).take n))
 | false=>none

def same:IntKind→IntKind→Bool
 | .i8,.i8 | .i16,.i16 | .i32,.i32 | .i64,.i64 | .u8,.u8 | .u16,.u16 | .u32,.u32 | .u64,.u64=>true
 | _,_=>false

def eqD:D→D→Option Bool
 | .int k a,.int k' b=>match same k k' with | true=>some (a==b) | false=>none
 | _,_=>none
def eqL:List D→List D→Option Bool
 | [],[]=>some true
 | x::xs,y::ys=>match eqD x y with
  | none=>none
  | some a=>match eqL xs ys with
   | none=>none
   | some b=>some (a && b)
 | _,_=>none

def asBoolD:D→Option Bool
 | .tt=>some true
 | .ff=>some false
 | .bool b=>some b
 | _=>none

def eqLz:List D→List D→List D→Option Bool
 | [],[],[]=>some true
 | .int _ _::z,x::xs,y::ys=>match eqD x y with
  | none=>none
  | some a=>match eqLz z xs ys with
   | none=>none
   | some b=>some (a && b)
 | .ff::z,x::xs,y::ys=>match asBoolD x,asBoolD y with
  | some a,some c=>match eqLz z xs ys with
   | none=>none
   | some b=>some ((a==c) && b)
  | _,_=>none
 | _,_,_=>none

def Iff' (b:Bool) (p:Prop):Prop :=
 match b with
 | true=>p
 | false=>False

def binE (ti:TI) (op:BinOp) (x y:D) (k:D→Prop):Prop :=
 match x,y with
 | .int kx a,.int ky b =>
  match op with
  | .shl=>0≤b∧∃ r,kx.wrap (a*2^(min b.toNat kx.bits))=r∧k (.int kx r)
  | .shr=>0≤b∧∃ r,a.fdiv (2^(min b.toNat kx.bits))=r∧k (.int kx r)
  | .add=>Iff' (same kx ky) (∃ r,kx.wrap (a+b)=r∧k (.int kx r))
  | .sub=>Iff' (same kx ky) (∃ r,kx.wrap (a - b)=r∧k (.int kx r))
  | .mul=>Iff' (same kx ky) (∃ r,kx.wrap (a*b)=r∧k (.int kx r))
  | .quo=>Iff' (same kx ky) (b≠0∧∃ r,kx.wrap (a.tdiv b)=r∧k (.int kx r))
  | .rem=>Iff' (same kx ky) (b≠0∧∃ r,a.tmod b=r∧k (.int kx r))
  | .and=>Iff' (same kx ky) (∃ r,bits .and kx a b=r∧k (.int kx r))
  | .or=>Iff' (same kx ky) (∃ r,bits .or kx a b=r∧k (.int kx r))
  | .xor=>Iff' (same kx ky) (∃ r,bits .xor kx a b=r∧k (.int kx r))
  | .andNot=>Iff' (same kx ky) (∃ r,bits .andNot kx a b=r∧k (.int kx r))
  | .eql=>Iff' (same kx ky) (k (.bool (a==b)))
  | .neq=>Iff' (same kx ky) (k (.bool (a != b)))
  | .lss=>Iff' (same kx ky) (k (.bool (decide (a<b))))
  | .leq=>Iff' (same kx ky) (k (.bool (decide (a≤b))))
  | .gtr=>Iff' (same kx ky) (k (.bool (decide (a > b))))
  | .geq=>Iff' (same kx ky) (k (.bool (decide (a ≥ b))))
 | .str a,.str b =>
  match op with
  | .add=>(a.size:Int)+b.size≤9223372036854775807∧k (.str (a++b))
  | .eql=>k (.bool (a.toList==b.toList))
  | .neq=>k (.bool (!(a.toList==b.toList)))
  | _=>False
 | .agg xs,.agg ys =>
  match ti.eqs,op,eqLz ti.zero xs ys with
  | true,.eql,some b=>Iff' (Nat.beq xs.length ti.size) (k (.bool b))
  | true,.neq,some b=>Iff' (Nat.beq xs.length ti.size) (k (.bool (!b)))
  | _,_,_=>False
 | x,y =>
  match ti.desc,op,asBoolD x,asBoolD y with
  | .bool,.eql,some a,some b=>k (.bool (a==b))
  | .bool,.neq,some a,some b=>k (.bool (!(a==b)))
  | _,_,_,_=>False

def minE:List D→(D→Prop)→Prop
 | [.int kx a,.int ky b],k=>Iff' (same kx ky) (k (.int kx (min a b)))
 | [.int kx a,.int ky b,.int kz c],k=>Iff' (match same kx ky with | true=>same kx kz | false=>false) (k (.int kx (min (min a b) c)))
 | _,_=>False

def maxE:List D→(D→Prop)→Prop
 | [.int kx a,.int ky b],k=>Iff' (same kx ky) (k (.int kx (max a b)))
 | _,_=>False

def rowsOf (bs:List Box):D→Option (Nat × List (List D))
 | .list sz rows=>some (sz,rows)
 | .nils=>some (0,[])
 | .sl i g off len=>match bs[i]? with
  | some (.rows _ g' sz rs)=>match Nat.beq g g' with
   | true=>some (sz,(rs.drop off).take len)
   | false=>none
  | _=>none
 | _=>none

def lenE:D→(D→Prop)→Prop
 | .list _ rows,k=>k (.int .i64 rows.length)
 | .nils,k=>k (.int .i64 0)
 | .sl _ _ _ len,k=>k (.int .i64 len)
 | .asl _ len,k=>k (.int .i64 len)
 | _,_=>False

def mostBytes:Nat:=140737488355328

def offE (off:Nat) (p:Prop):Prop:=match Nat.beq off 0 with | true=>True | false=>p
theorem offE_mk {off:Nat} {p:Prop} (h:p):offE off p:=by unfold offE;split <;> trivial
theorem offE_inv {off:Nat} {p:Prop} (h:offE off p) (ho:off≠0):p:=by
 unfold offE at h
 split at h
 ·rename_i e;exact absurd (Nat.eq_of_beq_eq_true e) ho
 ·exact h
theorem old_all {rs:List (List D)} {len:Nat} (h:len=rs.length):(rs.drop 0).take len=rs:=by subst h;simp

def appendE (bs:List Box) (size bytes:Nat) (s:D) (ys:D) (k:Eff→Prop):Prop :=
 match rowsOf bs ys with
 | none=>False
 | some (sz,rows) =>
  (match Nat.beq sz size with | true=>True | false=>rows=[]) ∧
  match s with
  | .nils=>rows.length*bytes≤mostBytes∧k (.new (.rows false 0 size rows) fun i=>.sl i 0 0 rows.length)
  | .sl i g off len =>
   match bs[i]? with
   | some (.rows false g' sz' rs) =>
    Iff' (match Nat.beq g g' with | true=>Nat.beq sz' size | false=>false) (off+len≤rs.length∧(len+rows.length)*bytes≤mostBytes ∧
    ∃ old,(rs.drop off).take len=old∧∃ all,old++rows=all∧offE off (k (.set i (.rows false (g+1) size (rs.take off++all)) (.sl i (g+1) off all.length))) ∧
     k (.set i (.rows false (g+1) size all) (.sl i (g+1) 0 all.length)))
   | _=>False
  | _=>False

def fillRows (size:Nat):List (List D)→List (Nat × D)→Option (List (List D))
 | rows,[]=>some rows
 | rows,(i,d)::r=>match cellsOf d with
  | none=>none
  | some cs=>match Nat.beq cs.length size,allFree cs,Nat.blt i rows.length with
   | true,true,true=>fillRows size (rows.set i cs) r
   | _,_,_=>none

def reifyP (bs:List Box):List (Nat × D)→Option (List (Nat × D))
 | []=>some []
 | (i,d)::r=>match reify bs fuel d with
  | none=>none
  | some e=>match reifyP bs r with
   | none=>none
   | some l=>some ((i,e)::l)
def touchP (bs:List Box) (l:List (Nat × D)):List Nat:=l.flatMap fun x=>touch bs fuel x.2

def fillCells (place:Nat→Option (Nat × Nat)):List D→List (Nat × D)→Option (List D)
 | cells,[]=>some cells
 | cells,(i,d)::r=>match place i,cellsOf d with
  | some (off,size),some cs=>match Nat.beq cs.length size,fits cells off size with
   | true,true=>fillCells place (splice cells off cs) r
   | _,_=>none
  | _,_=>none

def St.evP (σ:St):List (Nat × Operand)→Option (List (Nat × D))
 | []=>some []
 | (i,x)::r=>match σ.ev x with
  | none=>none
  | some d=>match σ.evP r with
   | none=>none
   | some l=>some ((i,d)::l)

def eqKD:D→D→Option Bool
 | .int k a,.int k' b=>match same k k' with | true=>some (a==b) | false=>none
 | .agg xs,.agg ys=>eqL xs ys
 | _,_=>none

def noMit (i:Nat):List Box→Bool
 | []=>true
 | .miter _ j _ _ _::r=>match Nat.beq j i with | true=>false | false=>noMit i r
 | .flat ..::r=>noMit i r
 | .rows ..::r=>noMit i r
 | .map ..::r=>noMit i r
 | .siter ..::r=>noMit i r

def selOKB (sel:List Nat) (bs:List Box):Bool:=match selOK sel bs.length with | true=>sel.all fun i=>noMit i bs | false=>false

def findK (k:D):List D→Option (Option Nat)
 | []=>some none
 | x::r=>match eqKD k x with
  | none=>none
  | some true=>some (some 0)
  | some false=>match findK k r with
   | none=>none
   | some none=>some none
   | some (some i)=>some (some (i+1))

def freeV:D→Bool
 | .agg cs=>allFree cs
 | d=>d.free

def lookE (ks vs:List D) (key z:D) (ok:Bool) (k:Eff→Prop):Prop :=
 match ok with
 | false=>∃ o,findK key ks=some o∧∃ d,(match o with | some i=>vs[i]?=some d | none=>d=z)∧k (.val d)
 | true=>∃ o,findK key ks=some o∧∃ d b,(match o with | some i=>vs[i]?=some d∧b=D.tt | none=>d=z∧b=D.ff)∧k (.val (.tup [d,b]))

def allInt:List D→Bool
 | []=>true
 | .int _ _::r=>allInt r
 | _::_=>false
def keyOK (tk:TI):D→Bool
 | .int _ _=>match tk.desc with | .int _=>true | _=>false
 | .agg xs=>match tk.eqs,Nat.beq xs.length tk.size,allInt tk.zero with | true,true,true=>allInt xs | _,_,_=>false
 | _=>false

def mupdE (tk:TI) (bs:List Box) (m key x:D) (k:Eff→Prop):Prop :=
 match m with
 | .mloc i=>match bs[i]? with
  | some (.map false ks vs)=>Iff' (match keyOK tk key,freeV x with | true,true=>noMit i bs | _,_=>false) (∃ o,findK key ks=some o∧∃ ks' vs',(match o with | some i=>ks'=ks∧vs'=vs.set i x | none=>ks'=ks++[key]∧vs'=vs++[x])∧k (.set i (.map false ks' vs') .und))
  | _=>False
 | _=>False

def zeroD (ti:TI):D:=match ti.agg with
 | true=>.agg ti.zero
 | false=>match ti.zero with | d::_=>d | []=>.und

def loadE (ti:TI) (bs:List Box) (p:D) (k:Eff→Prop):Prop :=
 match p with
 | .loc i off=>match bs[i]? with
  | some (.flat _ cells)=>match ti.agg with
   | true=>match readAgg cells off ti.size with
    | some d=>forceA d fun d=>k (.val d)
    | none=>False
   | false=>match cells[off]? with
    | some d=>k (.val d)
    | none=>False
  | _=>False
 | .aloc i off=>match bs[i]? with
  | some (.flat _ cells)=>match ti.agg with
   | true=>∃ cs,(cells.drop off).take ti.size=cs∧cs.length=ti.size∧k (.val (.agg cs))
   | false=>∃ d,cells[off]?=some d∧k (.val d)
  | _=>False
 | .ro cells=>match ti.agg with
  | true=>match readAgg cells 0 ti.size with
   | some d=>forceA d fun d=>k (.val d)
   | none=>False
  | false=>match cells with
   | d::_=>k (.val d)
   | []=>False
 | .rloc i g r off=>match bs[i]? with
  | some (.rows _ g' _ rs)=>Iff' (Nat.beq g g') (∃ row,rs[r]?=some row∧match ti.agg with
   | true=>match readAgg row off ti.size with
    | some d=>forceA d fun d=>k (.val d)
    | none=>False
   | false=>match row[off]? with
    | some d=>k (.val d)
    | none=>False)
  | _=>False
 | _=>False

def storeE (ti:TI) (bs:List Box) (p x:D) (k:Eff→Prop):Prop :=
 match cellsOf x with
 | none=>False
 | some ds =>
  Iff' (Nat.beq ds.length ti.size) <|
  match p with
  | .loc i off=>match bs[i]? with
   | some (.flat false cells)=>match fits cells off ds.length with
    | true=>k (.set i (.flat false (splice cells off ds)) .und)
    | false=>False
   | _=>False
  | .aloc i off=>match bs[i]? with
   | some (.flat false cells)=>off+ds.length≤cells.length∧∃ cs,splice cells off ds=cs∧k (.set i (.flat false cs) .und)
   | _=>False
  | .rloc i g r off=>match bs[i]? with
   | some (.rows false g' sz rs)=>Iff' (match Nat.beq g g' with | true=>allFree ds | false=>false) (∃ row,rs[r]?=some row∧off+ds.length≤row.length∧∃ rs',rs.set r (splice row off ds)=rs'∧k (.set i (.rows false g' sz rs') .und))
   | _=>False
  | _=>False

def fieldAddrE (p:D) (off:Nat) (k:Eff→Prop):Prop :=
 match p with
 | .loc i o=>litN (o+off) fun n=>k (.val (.loc i n))
 | .aloc i o=>k (.val (.aloc i (o+off)))
 | .rloc i g r o=>k (.val (.rloc i g r (o+off)))
 | .ro cs=>k (.val (.ro (cs.drop off)))
 | _=>False

def isConst:Operand→Bool
 | .const _=>true
 | _=>false

def isNilC:Operand→Bool
 | .const (.slice none 0 0)=>true
 | _=>false

def indexAddrE (bs:List Box) (desc:TypeDesc) (esize:Nat) (lit:Bool) (p i:D) (k:Eff→Prop):Prop :=
 match i with
 | .int _ n =>
  match desc with
  | .array len _ =>
   (0≤n∧n<len) ∧
   match p with
   | .loc b o=>match lit with
    | true=>litN (o+n.toNat*esize) fun n=>k (.val (.loc b n))
    | false=>∃ m,n.toNat*esize=m∧k (.val (.aloc b (o+m)))
   | .aloc b o=>∃ m,n.toNat*esize=m∧k (.val (.aloc b (o+m)))
   | .rloc b g r o=>match lit with
    | true=>k (.val (.rloc b g r (o+n.toNat*esize)))
    | false=>False
   | .ro cs=>∃ cs',cs.drop (n.toNat*esize)=cs'∧k (.val (.ro cs'))
   | .gp g o=>∃ m,n.toNat*esize=m∧k (.val (.gp g (o+m)))
   | _=>False
  | .slice _ =>
   match p with
   | .list sz rows=>Iff' (Nat.beq sz esize) (0≤n∧∃ row,rows[n.toNat]?=some row∧k (.val (.ro row)))
   | .sl b g off len=>match bs[b]? with
    | some (.rows _ g' sz _)=>Iff' (match Nat.beq g g' with | true=>Nat.beq sz esize | false=>false) (0≤n∧n<len∧∃ m,off+n.toNat=m∧k (.val (.rloc b g m 0)))
    | _=>False
   | .asl b len=>Iff' (Nat.beq esize 1) (0≤n∧n<len∧∃ m,n.toNat=m∧k (.val (.aloc b m)))
   | _=>False
  | _=>False
 | _=>False

def sliceE (bs:List Box) (desc:TypeDesc) (esize:Nat) (p:D) (lo hi:Option D) (k:Eff→Prop):Prop :=
 match desc with
 | .slice _ =>
  match p with
  | .list sz rows =>
   Iff' (Nat.beq sz esize) <| match lo,hi with
   | none,none=>k (.val (.list sz rows))
   | some (.int _ a),none=>(0≤a∧a≤rows.length)∧∃ l,rows.drop a.toNat=l∧k (.val (.list sz l))
   | none,some (.int _ b)=>(0≤b∧b≤rows.length)∧∃ l,rows.take b.toNat=l∧k (.val (.list sz l))
   | some (.int _ a),some (.int _ b)=>(0≤a∧a≤b∧b≤rows.length)∧∃ l,(rows.take b.toNat).drop a.toNat=l∧k (.val (.list sz l))
   | _,_=>False
  | .sl i g off len=>match bs[i]? with
   | some (.rows _ g' sz _) =>
    Iff' (match Nat.beq g g' with | true=>Nat.beq sz esize | false=>false) <| match lo,hi with
    | none,none=>k (.val (.sl i g off len))
    | some (.int _ a),none=>(0≤a∧a≤len)∧k (.val (.sl i g (off+a.toNat) (len - a.toNat)))
    | none,some (.int _ b)=>(0≤b∧b≤len)∧k (.val (.sl i g off b.toNat))
    | some (.int _ a),some (.int _ b)=>(0≤a∧a≤b∧b≤len)∧k (.val (.sl i g (off+a.toNat) (b.toNat - a.toNat)))
    | _,_=>False
   | _=>False
  | _=>False
 | _=>False

def oneCell:List D→Option D
 | [z]=>some z
 | _=>none

def makeE (te:TI) (j:Nat) (k:Eff→Prop):Prop :=
 match (match te.desc with | .slice _=>oneCell te.zero | _=>none) with
 | some z=>∃ cs,List.replicate j z=cs∧k (.new (.flat false cs) fun i=>.asl i j)
 | none=>∃ rs,List.replicate j te.zero=rs∧k (.new (.rows false 0 te.size rs) fun i=>.sl i 0 0 j)

theorem makeE_inv {te:TI} {j:Nat} {k:Eff→Prop} (h:makeE te j k) :
    ((∃ z,te.zero=[z]∧k (.new (.flat false (List.replicate j z)) fun i=>.asl i j))∨k (.new (.rows false 0 te.size (List.replicate j te.zero)) fun i=>.sl i 0 0 j)) ∧
    ∃ b mk,k (.new b mk)∧b.fz=false∧∀ k':Eff→Prop,k' (.new b mk)→makeE te j k':=by
  unfold makeE at h ⊢
  split at h
  ·rename_i z hz
   obtain ⟨cs,rfl,h⟩:=h
   refine ⟨.inl ⟨z,?_,h⟩,_,_,h,rfl,fun k' h'=>⟨_,rfl,h'⟩⟩
   split at hz
   ·unfold oneCell at hz
    split at hz
    ·rename_i hh;cases hz;exact hh
    ·cases hz
   ·cases hz
  ·obtain ⟨rs,rfl,h⟩:=h
   exact ⟨.inr h,_,_,h,rfl,fun k' h'=>⟨_,rfl,h'⟩⟩

def sliceSE (desc:TypeDesc) (p:D) (lo hi:Option D) (k:Eff→Prop):Prop :=
 match desc,p,lo,hi with
 | .string,.str s,none,some (.int _ b)=>(0≤b∧b≤s.size)∧k (.val (.str (s.extract 0 b.toNat)))
 | _,_,_,_=>False

section
variable (T:Nat→Option TI) (C:Ctr) (It:Itr)

def elemTI (desc:TypeDesc):Option TI :=
 match desc with
 | .array _ e=>T e
 | .slice e=>T e
 | _=>none

def sliceTI (desc:TypeDesc):Option TI :=
 match desc with
 | .slice e=>T e
 | _=>none

def fieldTI (desc:TypeDesc) (f:Nat):Option (Nat × TI) :=
 match desc with
 | .struct fs=>match fs[f]? with
  | some x=>match T x.type with
   | some ti=>some (x.offset,ti)
   | none=>none
  | none=>none
 | _=>none

def placeE (desc:TypeDesc) (i:Nat):Option (Nat × Nat) :=
 match desc with
 | .struct fs=>match fs[i]? with
  | some x=>match T x.type with
   | some ti=>some (x.offset,ti.size)
   | none=>none
  | none=>none
 | .array _ e=>match T e with
  | some ti=>some (i*ti.size,ti.size)
  | none=>none
 | _=>none

def typeAt (c:Call) (i:Nat):Option TI :=
 match c.argTypes[i]? with
 | some t=>T t
 | none=>none

def buildable (desc:TypeDesc):Bool :=
 match desc with
 | .struct _=>true
 | .array _ e=>match T e with | some _=>true | none=>false
 | _=>false

def optE (σ:St):Option Operand→Option (Option D)
 | none=>some none
 | some x=>match σ.ev x with
  | some d=>some (some d)
  | none=>none

def opE (σ:St) (o:Oper) (k:Eff→Prop):Prop :=
 match o.op with
 | .move x | .assign x=>match σ.ev x with
  | some d=>k (.val d)
  | none=>False
 | .pick c a b=>match σ.ev c with
  | some .tt=>match σ.ev a with | some d=>k (.val d) | none=>False
  | some .ff=>match σ.ev b with | some d=>k (.val d) | none=>False
  | some (.bool t)=>(t=true→match σ.ev a with | some d=>k (.val d) | none=>False)∧(t=false→match σ.ev b with | some d=>k (.val d) | none=>False)
  | _=>False
 | .alloc t=>match T t with
  | some ti=>k (.new (.flat false ti.zero) fun i=>.loc i 0)
  | none=>False
 | .box _ x=>match σ.ev x with
  | some d=>match cellsOf d with
   | some cs=>k (.new (.flat false cs) fun i=>.loc i 0)
   | none=>False
  | none=>False
 | .build t ps=>match T t,σ.evP ps.toList with
  | some ti,some l=>match buildable T ti.desc,fillCells (placeE T ti.desc) ti.zero l with
   | true,some cs=>forceL cs fun cs=>k (.val (.agg cs))
   | _,_=>False
  | _,_=>False
 | .buildSlice t len ps=>match T t,σ.evP ps.toList with
  | some ti,some l=>match sliceTI T ti.desc with
   | some te=>match fillRows te.size (List.replicate len te.zero) l with
    | some rows=>Iff' (match Nat.blt 0 te.size,Nat.ble (len*te.size) 16777216 with | true,true=>allFree te.zero | _,_=>false) (k (.new (.rows false 0 te.size rows) fun i=>match Nat.beq len 0 with | true=>.nils | false=>.sl i 0 0 len))
    | none=>∃ l',reifyP σ.boxes l=some l'∧∃ rows,fillRows te.size (List.replicate len te.zero) l'=some rows ∧
        Iff' (match Nat.blt 0 te.size,Nat.ble (len*te.size) 16777216 with | true,true=>allFree te.zero | _,_=>false) (k (.newF (.rows false 0 te.size rows) (fun i=>match Nat.beq len 0 with | true=>.nils | false=>.sl i 0 0 len) (touchP σ.boxes l)))
   | none=>False
  | _,_=>False
 | .load t a=>match T t,σ.ev a with
  | some ti,some (.gp g off)=>(match ti.agg with | false=>∃ kd n,C.gt g off=some (kd,n)∧k (.val (.int kd n)) | true=>False)
  | some ti,some p=>loadE ti σ.boxes p k
  | _,_=>False
 | .store t a x=>match T t,σ.ev a,σ.ev x with
  | some ti,some p,some d=>storeE ti σ.boxes p d k
  | _,_,_=>False
 | .nilCheck x=>match σ.ev x with
  | some (.loc i o)=>k (.val (.loc i o))
  | some (.ro cs)=>k (.val (.ro cs))
  | _=>False
 | .binOp op t x y _=>match T t,σ.ev x,σ.ev y with
  | some ti,some (.list _ rows),some .nils=>(match ti.desc,op,isNilC y with
   | .slice _,.eql,true=>∀ b:Bool,(b=true→rows=[])→k (.val (.bool b))
   | _,_,_=>False)
  | some ti,some a,some b=>binE ti op a b fun d=>k (.val d)
  | _,_,_=>False
 | .unOp op _ x=>match op,σ.ev x with
  | .not,some .tt=>k (.val .ff)
  | .not,some .ff=>k (.val .tt)
  | .not,some (.bool b)=>k (.val (.bool (!b)))
  | .neg,some (.int kx a)=>∃ r,kx.wrap (0 - a)=r∧k (.val (.int kx r))
  | _,_=>False
 | .convert s d x=>match T s,T d,σ.ev x with
  | some ts,some td,some v=>match ts.desc,td.desc,v with
   | .int _,.int kd,.int _ n=>∃ r,kd.wrap n=r∧k (.val (.int kd r))
   | _,_,_=>False
  | _,_,_=>False
 | .makeFunc fn fs cs=>match σ.evL fs.toList,σ.evL cs.toList with
  | some l,some m=>k (.val (.clo fn l m))
  | _,_=>False
 | .makeSlice t l c=>match T t,σ.ev l,σ.ev c with
  | some ti,some (.int .i64 n),some (.int .i64 m)=>match sliceTI T ti.desc with
   | some te=>Iff' (match Nat.blt 0 te.size,Nat.blt 0 te.bytes with | true,true=>allFree te.zero | _,_=>false) (0≤n∧n=m∧te.bytes*n≤mostBytes ∧
       ∃ j,n.toNat=j∧makeE te j k)
   | none=>False
  | _,_,_=>False
 | .slice t x lo hi mx=>match mx,T t,σ.ev x,optE σ lo,optE σ hi with
  | none,some ti,some p,some l,some h=>match elemTI T ti.desc with
   | some te=>sliceE σ.boxes ti.desc te.size p l h k
   | none=>sliceSE ti.desc p l h k
  | _,_,_,_,_=>False
 | .fieldAddr t x f=>match T t,σ.ev x with
  | some ti,some p=>match fieldTI T ti.desc f with
   | some (off,tf)=>Iff' (Nat.blt 0 tf.size) (fieldAddrE p off k)
   | none=>False
  | _,_=>False
 | .field t x f=>match T t,σ.ev x with
  | some ti,some (.agg cs)=>match fieldTI T ti.desc f with
   | some (off,tf)=>match tf.agg with
    | true=>match readAgg cs off tf.size with
     | some d=>forceA d fun d=>k (.val d)
     | none=>False
    | false=>match cs[off]? with
     | some d=>k (.val d)
     | none=>False
   | none=>False
  | _,_=>False
 | .indexAddr t x i=>match T t,σ.ev x,σ.ev i with
  | some ti,some p,some n=>match elemTI T ti.desc with
   | some te=>indexAddrE σ.boxes ti.desc te.size (isConst i) p n k
   | none=>False
  | _,_,_=>False
 | .index t x i=>match T t,σ.ev x,σ.ev i with
  | some ti,some (.str s),some (.int _ n)=>match ti.desc with
   | .string=>0≤n∧∃ b,s[n.toNat]?=some b∧k (.val (.int .u8 b.toNat))
   | _=>False
  | some ti,some (.agg cs),some (.int _ n)=>match ti.desc,elemTI T ti.desc with
   | .array len _,some te=>(0≤n∧n<len)∧match te.agg with
    | true=>∃ ds,(cs.drop (n.toNat*te.size)).take te.size=ds∧ds.length=te.size∧k (.val (.agg ds))
    | false=>∃ d,cs[n.toNat*te.size]?=some d∧k (.val d)
   | _,_=>False
  | _,_,_=>False
 | .makeMap t r=>match T t,r with
  | some ti,none=>match ti.desc with
   | .map _ _=>k (.new (.map false [] []) fun i=>.mloc i)
   | _=>False
  | _,_=>False
 | .lookup t x i ok=>match T t,σ.ev x,σ.ev i with
  | some ti,some m,some key=>match ti.desc with
   | .map kt et=>match T kt,T et with
    | some tk,some te=>Iff' (keyOK tk key) (match m with
     | .mloc j=>match σ.boxes[j]? with
      | some (.map _ ks vs)=>lookE ks vs key (zeroD te) ok k
      | _=>False
     | .mro ks vs=>lookE ks vs key (zeroD te) ok k
     | .nilm=>lookE [] [] key (zeroD te) ok k
     | _=>False)
    | _,_=>False
   | _=>False
  | _,_,_=>False
 | .mapUpdate t x i y | .insert t x i y=>match T t,σ.ev x,σ.ev i,σ.ev y with
  | some ti,some m,some key,some v=>match ti.desc with
   | .map kt _=>match T kt with
    | some tk=>mupdE tk σ.boxes m key v k
    | none=>False
   | _=>False
  | _,_,_,_=>False
 | .range t x=>match T t,σ.ev x with
  | some ti,some (.str s)=>match ti.desc with
   | .string=>k (.new (.siter false s 0) fun i=>.sit i)
   | _=>False
  | some ti,some (.mloc j)=>match ti.desc,σ.boxes[j]? with
   | .map _ _,some (.map _ ks vs)=>k (.new (.miter false j ks vs []) fun i=>.sit i)
   | _,_=>False
  | _,_=>False
 | .next x str=>match str,σ.ev x with
  | true,some (.sit i)=>match σ.boxes[i]? with
   | some (.siter false s pos)=>(pos<s.size→∃ c wd,Utf8.decode s pos=(c,wd)∧k (.set i (.siter false s (pos+wd)) (.tup [.tt,.int .i64 pos,.int .i32 c])))∧(¬ pos<s.size→k (.set i (.siter false s pos) (.tup [.ff])))
   | _=>False
  | false,some (.sit i)=>match σ.boxes[i]? with
   | some (.miter false j ks vs seen)=>(∀ (q:Nat) (kd vd:D),ks[q]?=some kd→vs[q]?=some vd→q ∉ seen→k (.set i (.miter false j ks vs (q::seen)) (.tup [.tt,kd,vd]))) ∧
       ((∀ q:Nat,q<ks.length→q∈seen)→k (.set i (.miter false j ks vs seen) (.tup [.ff])))
   | _=>False
  | _,_=>False
 | .entry x=>match σ.ev x with
  | some (.sit i)=>match σ.boxes[i]? with
   | some (.miter _ _ ks vs (q::_))=>∃ kd vd,ks[q]?=some kd∧vs[q]?=some vd∧k (.val (.tup [kd,vd]))
   | _=>False
  | _=>False
 | .extract t i=>match σ.ev t with
  | some (.tup ds)=>match ds[i]? with
   | some d=>k (.val d)
   | none=>False
  | _=>False
 | .call c=>match c.callee with
  | .value f=>match σ.ev f,σ.evL c.args.toList with
   | some (.yld l),some as=>match σ.y with
    | .rem l' (x::r)=>match as with
     | [.mloc i]=>match σ.boxes[i]? with
      | some (.map false ks vs)=>l=l'∧x=[.gmap ks vs]∧Iff' (match plainAll ks,plainAll vs with | true,true=>okBoxes i (σ.boxes.take i) | _,_=>false) (k (.gave true (.rem l' r) i)∧k (.gave false .stopped i))
      | _=>False
     | as=>l=l'∧(∃ rs,reifyL σ.boxes as=some rs∧rs=x)∧k (.yielded true (.rem l' r))∧k (.yielded false .stopped)
    | _=>False
   | some (.clo (.func fk) fs cs),some as=>match C.nw fk with
    | true=>∃ rs,reifyL σ.boxes (fs++(as++cs))=some rs∧∃ b,C.new fk rs b∧Iff' (newOK b) (k (.new b (mkOf b)))
    | false=>match C.sh fk with
     | false=>∃ rs,reifyL σ.boxes (fs++(as++cs))=some rs∧∃ d,C.den fk rs d∧k (.res d (fs++(as++cs)))
     | true=>(∃ rs,reifyL σ.boxes (fs++(as++cs))=some rs∧∃ d,C.den fk rs d∧k (.res d (fs++(as++cs)))) ∨
      ∃ (sel:List Nat) (args':List D) (bs0:List Box) (Q:D→List Box→Yst→Prop),selOKB sel σ.boxes=true∧noFz bs0=true∧renL (selF sel σ.boxes.length) args'=fs++(as++cs) ∧
       bs0.map (fun b=>some (b.ren (selF sel σ.boxes.length)))=getSel σ.boxes sel∧C.shr fk args' bs0 σ.y Q∧(∃ d bs' y',Q d bs' y') ∧
       ∀ d bs' y',Q d bs' y'→∃ X,putSel σ.boxes sel (bs'.map (Box.ren (selF sel σ.boxes.length)))=X∧k (.resS (ren (selF sel σ.boxes.length) d) X y')
   | _,_=>False
  | .builtin b=>match σ.evL c.args.toList with
   | none=>False
   | some as =>
    match b with
    | .len=>match as with
     | [x]=>match typeAt T c 0 with
      | some ti=>match ti.desc with
       | .array n _=>k (.val (.int .i64 n))
       | .slice _=>lenE x fun d=>k (.val d)
       | .string=>match x with
        | .str s=>k (.val (.int .i64 s.size))
        | _=>False
       | _=>False
      | none=>False
     | _=>False
    | .min=>minE as fun d=>k (.val d)
    | .max=>maxE as fun d=>k (.val d)
    | .append=>match as with
     | [s,x]=>match typeAt T c 0,typeAt T c 1 with
      | some ti,some tx=>match tx.desc with
       | .slice _=>match sliceTI T ti.desc with
        | some te=>Iff' (match Nat.blt 0 te.size with | true=>Nat.blt 0 te.bytes | false=>false) (appendE σ.boxes te.size te.bytes s x k)
        | none=>False
       | _=>False
      | _,_=>False
     | _=>False
    | _=>False
  | _=>False
 | _=>False

def effVal (σ:St):Eff→D
 | .val d=>d
 | .resS d _ _=>d
 | .new _ mk=>mk σ.boxes.length
 | .set _ _ d=>d
 | .res d _=>d
 | .yielded b _=>match b with | true=>.tt | false=>.ff
 | .newF _ mk _=>mk σ.boxes.length
 | .gave b _ _=>match b with | true=>.tt | false=>.ff

def effBoxes (σ:St):Eff→List Box
 | .val _=>σ.boxes
 | .resS _ bs _=>bs
 | .new b _=>σ.boxes++[b]
 | .set i b _=>σ.boxes.set i b
 | .res d args=>boxesAfter σ.boxes d args
 | .yielded _ _=>σ.boxes
 | .newF b _ L=>freezeIn σ.boxes 0 L++[b]
 | .gave _ _ nb=>σ.boxes.take nb

def effY (σ:St):Eff→Yst
 | .yielded _ y=>y
 | .gave _ y _=>y
 | .resS _ _ y=>y
 | _=>σ.y

def lowT (nb:Nat):List (Nat × D)→List (Nat × D)
 | []=>[]
 | (t,d)::r=>match okAt nb d with
  | true=>(t,d)::lowT nb r
  | false=>(t,.und)::lowT nb r

def effT (σ:St):Eff→List (Nat × D)
 | .gave _ _ nb=>lowT nb σ.tmps
 | _=>σ.tmps

def effSt (σ:St) (dst:Option Nat) (e:Eff):St:=St.put ⟨effT σ e,effBoxes σ e,effY σ e⟩ dst (effVal σ e)

def isGuard (ops:List Oper) (i:Nat):Bool :=
 ops.any fun o=>match o.guard with | some (j,_)=>Nat.beq j i | none=>false

def putT (tm:List (Nat × D)) (dst:Option Nat) (d:D) (k:List (Nat × D)→Prop):Prop :=
 match dst with
 | none=>k tm
 | some t=>k ((t,d)::tm)

def putF (σ:St) (dst:Option Nat) (e:Eff) (K:St→Prop):Prop :=
 match σ with
 | ⟨tm,bs,y⟩=>match e with
  | .val d=>forceD d fun d=>putT tm dst d fun tm=>K ⟨tm,bs,y⟩
  | .new b mk=>litN bs.length fun n=>forceD (mk n) fun d=>forceL (bs++[b]) fun bs=>putT tm dst d fun tm=>K ⟨tm,bs,y⟩
  | .set i b d=>forceL (bs.set i b) fun bs=>forceD d fun d=>putT tm dst d fun tm=>K ⟨tm,bs,y⟩
  | .res d as=>forceD d fun d=>forceBx (boxesAfter bs d as) fun bs=>putT tm dst d fun tm=>K ⟨tm,bs,y⟩
  | .resS d bs y=>forceD d fun d=>forceBx bs fun bs=>putT tm dst d fun tm=>K ⟨tm,bs,y⟩
  | .yielded b y=>match b with
   | true=>putT tm dst .tt fun tm=>K ⟨tm,bs,y⟩
   | false=>putT tm dst .ff fun tm=>K ⟨tm,bs,y⟩
  | .newF b mk L=>litN bs.length fun n=>forceD (mk n) fun d=>forceBx (freezeIn bs 0 L++[b]) fun bs=>putT tm dst d fun tm=>K ⟨tm,bs,y⟩
  | .gave b y nb=>forceL (bs.take nb) fun bs=>forceL (lowT nb tm) fun tm=>match b with
   | true=>putT tm dst .tt fun tm=>K ⟨tm,bs,y⟩
   | false=>putT tm dst .ff fun tm=>K ⟨tm,bs,y⟩

theorem putT_eq (tm:List (Nat × D)) (dst:Option Nat) (d:D) (bs:List Box) (y:Yst) (K:St→Prop):(putT tm dst d fun tm=>K ⟨tm,bs,y⟩)=K (St.put ⟨tm,bs,y⟩ dst d):=by
 cases dst <;> rfl

theorem putF_eq (σ:St) (dst:Option Nat) (e:Eff) (K:St→Prop):putF σ dst e K=K (effSt σ dst e):=by
 cases σ with
 | mk tm bs y =>
  cases e with
  | val d=>unfold putF;simp only [forceD_eq,putT_eq];rfl
  | new b mk=>unfold putF;simp only [litN_eq,forceD_eq,forceL_eq,putT_eq];rfl
  | set i b d=>unfold putF;simp only [forceD_eq,forceL_eq,putT_eq];rfl
  | res d as=>unfold putF;simp only [forceD_eq,forceBx_eq,putT_eq];rfl
  | resS d bs y=>unfold putF;simp only [forceD_eq,forceBx_eq,putT_eq];rfl
  | yielded b y=>cases b <;> (unfold putF;simp only [putT_eq];rfl)
  | newF b mk L=>unfold putF;simp only [litN_eq,forceD_eq,forceBx_eq,putT_eq];rfl
  | gave b y nb=>cases b <;> (unfold putF;simp only [forceL_eq,putT_eq];rfl)

def noFb (lo:Nat):Eff→Bool:=fun e=>match e with | .gave _ _ nb=>(match Nat.ble lo nb with | true=>false | false=>true) | _=>false
def drFb:Eff→Bool:=fun e=>match e with | .yielded _ _=>true | .resS _ _ _=>true | .newF _ _ _=>true | .gave _ _ _=>true | _=>false
def tlFb:Eff→Bool:=fun e=>match e with | .yielded _ _=>true | .gave _ _ _=>true | _=>false
def stFb:Eff→Bool:=fun e=>match e with | .yielded _ _=>true | .set _ _ _=>true | .resS _ _ _=>true | .newF _ _ _=>true | .gave _ _ _=>true | _=>false

def stepE (fb:Eff→Bool) (g:Bool) (σ:St) (o:Oper) (K:St→Prop):Prop :=
 opE T C σ o fun e =>
  match fb e with
  | true=>False
  | false=>match g with
  | false=>putF σ o.dst e K
  | true=>match e with
   | .val (.bool b)=>(b=true→putF σ o.dst (.val .tt) K)∧(b=false→putF σ o.dst (.val .ff) K)
   | .res (.bool b) as=>(b=true→putF σ o.dst (.res .tt as) K)∧(b=false→putF σ o.dst (.res .ff as) K)
   | .resS (.bool b) bs y=>(b=true→putF σ o.dst (.resS .tt bs y) K)∧(b=false→putF σ o.dst (.resS .ff bs y) K)
   | e=>putF σ o.dst e K

def stepK (fb:Eff→Bool) (g:Bool) (σ:St) (dst:Option Nat) (K:St→Prop) (e:Eff):Prop :=
 match fb e with
 | true=>False
 | false=>match g with
  | false=>K (effSt σ dst e)
  | true=>match e with
   | .val (.bool b)=>(b=true→K (effSt σ dst (.val .tt)))∧(b=false→K (effSt σ dst (.val .ff)))
   | .res (.bool b) as=>(b=true→K (effSt σ dst (.res .tt as)))∧(b=false→K (effSt σ dst (.res .ff as)))
   | .resS (.bool b) bs y=>(b=true→K (effSt σ dst (.resS .tt bs y)))∧(b=false→K (effSt σ dst (.resS .ff bs y)))
   | e=>K (effSt σ dst e)
def stepE0 (fb:Eff→Bool) (g:Bool) (σ:St) (o:Oper) (K:St→Prop):Prop:=opE T C σ o (stepK fb g σ o.dst K)

theorem stepE_eq (fb:Eff→Bool) (g:Bool) (σ:St) (o:Oper) (K:St→Prop):stepE T C fb g σ o K=stepE0 T C fb g σ o K:=by
 unfold stepE stepE0
 congr 1
 funext e
 unfold stepK
 simp only [putF_eq]

def guardOf (ops:List Oper) (σ:St) (j:Nat):Option Bool :=
 match ops[j]? with
 | some o=>match o.dst with
  | some t=>match look σ.tmps t with
   | some .tt=>some true
   | some .ff=>some false
   | _=>none
  | none=>none
 | none=>none

def guardUnd (ops:List Oper) (σ:St) (j:Nat):Bool :=
 match ops[j]? with
 | some o=>match o.dst with
  | some t=>match look σ.tmps t with
   | some .skp=>true
   | _=>false
  | none=>false
 | none=>false

def runOps (fb:Eff→Bool) (ops:List Oper):List Oper→Nat→St→(St→Prop)→Prop
 | [],_,σ,K=>K σ
 | o::rest,i,σ,K =>
  match o.guard with
  | none=>stepE T C fb (isGuard ops i) σ o fun σ'=>runOps fb ops rest (i+1) σ' K
  | some (j,want) =>
   match guardUnd ops σ j with
   | true=>runOps fb ops rest (i+1) (σ.put o.dst .skp) K
   | false =>
    match guardOf ops σ j,want with
    | some true,true=>stepE T C fb (isGuard ops i) σ o fun σ'=>runOps fb ops rest (i+1) σ' K
    | some false,false=>stepE T C fb (isGuard ops i) σ o fun σ'=>runOps fb ops rest (i+1) σ' K
    | some true,false=>runOps fb ops rest (i+1) (σ.put o.dst .skp) K
    | some false,true=>runOps fb ops rest (i+1) (σ.put o.dst .skp) K
    | none,_=>False

inductive Ex where
 | normal
 | exit (id:Nat)
 | ret
 | panic (v:Value)

def setParams:List Nat→List D→List (Nat × D)→List (Nat × D)
 | t::ts,d::ds,tm=>setParams ts ds ((t,d)::tm)
 | _,_,tm=>tm

def keepT (tm:List (Nat × D)):List Nat→List (Nat × D)
 | []=>[]
 | t::r=>match look tm t with
  | some d=>(t,d)::keepT tm r
  | none=>keepT tm r

def St.clean (σ:St) (keep:List Nat) (nb:Nat):St:=⟨keepT σ.tmps keep,σ.boxes.take nb,σ.y⟩

inductive Pl where
 | slot (t:Nat)
 | cell (i off:Nat)
 | asList (t:Nat)
 | swap (i j:Nat)

def putIn:List (Nat × D)→Nat→D→List (Nat × D)
 | [],_,_=>[]
 | (k,e)::r,t,d=>match Nat.beq k t with
  | true=>(k,d)::r
  | false=>(k,e)::putIn r t d

def St.vec (σ:St):List (Pl × Nat)→St
 | []=>σ
 | (.slot t,sz)::r=>match look σ.tmps t with
  | some .nils=>St.vec ⟨putIn σ.tmps t (.sl σ.boxes.length 0 0 0),σ.boxes++[.rows false 0 sz []],σ.y⟩ r
  | _=>St.vec σ r
 | (.cell i off,sz)::r=>match σ.boxes[i]? with
  | some (.flat false cs)=>match cs[off]? with
   | some .nils=>St.vec ⟨σ.tmps,σ.boxes.set i (.flat false (cs.set off (.sl σ.boxes.length 0 0 0)))++[.rows false 0 sz []],σ.y⟩ r
   | _=>St.vec σ r
  | _=>St.vec σ r
 | (.asList _,_)::r=>St.vec σ r
 | (.swap _ _,_)::r=>St.vec σ r

def nvs:List (Pl × Nat)→Nat
 | []=>0
 | (.slot _,_)::r=>nvs r+1
 | (.cell _ _,_)::r=>nvs r+1
 | (.asList _,_)::r=>nvs r
 | (.swap _ _,_)::r=>nvs r

def swapN (i j k:Nat):Nat:=match Nat.beq k i with
 | true=>j
 | false=>match Nat.beq k j with
  | true=>i
  | false=>k

def renT (f:Nat→Nat):List (Nat × D)→List (Nat × D)
 | []=>[]
 | (t,d)::r=>(t,ren f d)::renT f r

def St.swap (lo:Nat) (σ:St) (i j:Nat):St :=
 match Nat.ble lo i,Nat.ble lo j,σ.boxes[i]?,σ.boxes[j]? with
 | true,true,some bi,some bj=>⟨renT (swapN i j) σ.tmps,((σ.boxes.set i bj).set j bi).map (Box.ren (swapN i j)),σ.y⟩
 | _,_,_,_=>σ

def St.fzs (σ:St) (lo:Nat):List (Pl × Nat)→St
 | []=>σ
 | (.slot _,_)::r=>St.fzs σ lo r
 | (.cell _ _,_)::r=>St.fzs σ lo r
 | (.asList t,sz)::r=>match look σ.tmps t with
  | some .nils=>St.fzs ⟨putIn σ.tmps t (.list sz []),σ.boxes,σ.y⟩ lo r
  | some (.sl i g off len)=>match reify σ.boxes fuel (.sl i g off len) with
   | some d=>St.fzs ⟨putIn σ.tmps t d,freezeIn σ.boxes 0 [i],σ.y⟩ lo r
   | none=>St.fzs σ lo r
  | _=>St.fzs σ lo r
 | (.swap i j,_)::r=>St.fzs (St.swap lo σ i j) lo r

def cellsPl:List (Nat × Nat × Nat)→List (Pl × Nat)
 | []=>[]
 | (i,off,sz)::r=>(.cell i off,sz)::cellsPl r

def St.good (σ:St) (nb:Nat):Prop:=okTmps nb σ.tmps=true∧okBoxes nb σ.boxes=true

def mild (o:Oper):Bool :=
 match o.op with
 | .binOp _ _ _ y _=>!(isNilC y)
 | .move _ | .assign _ | .pick .. | .alloc _ | .box .. | .build .. | .buildSlice .. | .load .. | .nilCheck _ | .unOp .. | .convert .. | .makeFunc .. | .makeSlice ..
 | .slice .. | .fieldAddr .. | .field .. | .indexAddr .. | .index .. | .extract ..=>true
 | .call c=>match c.callee with
  | .value _=>true
  | .builtin b=>match b with
   | .len | .min | .max=>true
   | _=>false
  | _=>false
 | _=>false

def isApp (o:Oper):Bool :=
 match o.op with
 | .call c=>match c.callee with
  | .builtin b=>match b with
   | .append=>true
   | _=>false
  | _=>false
 | _=>false
def mildA (o:Oper):Bool:=mild o || isApp o

def isAssign (o:Oper):Bool:=match o.op with | .assign _=>true | _=>false

def bindsB (e:Edge):Bool:=match e.ground with | .gcOnly _ | .textOnly _=>false | _=>true

def hasEdge (o:Oper) (j:Nat):Bool:=o.after.toList.any fun e=>Nat.beq e.on j && (match e.ground with | .gcOnly _ | .textOnly _=>false | _=>true)

def tmpsOf (o:Oper):List Nat:=o.op.operands.toList.filterMap fun | .tmp t=>some t | _=>none

def okDrawAt (ops:List Oper) (m:Nat):Bool :=
 let n:=ops.length
 let at_ (i:Nat):Oper:=ops.getD i default
 (List.range n).all (fun i =>
  (at_ i).after.toList.all (fun e=>Nat.blt e.on i || !(bindsB e)) &&
  (match (at_ i).guard with | some (g,_)=>Nat.blt g i | none=>true) &&
  (Nat.blt i m || (List.range i).all (fun j=>(List.range (i+1)).any fun s=>Nat.blt j s && hasEdge (at_ s) j))) &&
 (List.range m).all (fun i =>
  (List.range m).all (fun j =>
   match (at_ j).dst with
   | some t=>(!((tmpsOf (at_ i)).contains t) || (Nat.blt j i && hasEdge (at_ i) j)) && (Nat.beq i j || (match (at_ i).dst with | some u=>!(Nat.beq u t) | none=>true))
   | none=>true) &&
  (match (at_ i).guard with | some (g,_)=>hasEdge (at_ i) g | none=>true))

def okDraw (ops:List Oper):Bool :=
 okDrawAt ops (ops.takeWhile mild).length || okDrawAt ops (ops.takeWhile fun o=>mild o && !(isAssign o)).length

def okDrawM (ops:List Oper) (m:Nat):Bool:=match Nat.ble m (ops.takeWhile mild).length with | true=>okDrawAt ops m | false=>false

def valOp (o:Oper):Bool :=
 match o.op with
 | .binOp _ _ _ y _=>!(isNilC y)
 | .move _ | .assign _ | .fieldAddr .. | .field .. | .extract .. | .load .. | .convert .. | .slice .. | .build .. | .indexAddr ..=>true
 | .call c=>match c.callee with
  | .builtin b=>match b with
   | .len | .min | .max=>true
   | _=>false
  | _=>false
 | _=>false

def allocMk:Op→Option (Nat→D)
 | .alloc _=>some fun i=>.loc i 0
 | .box _ _=>some fun i=>.loc i 0
 | .buildSlice _ len _=>match Nat.beq len 0 with | true=>none | false=>some fun i=>.sl i 0 0 len
 | _=>none
def emptyMk:Op→Bool
 | .buildSlice _ len _=>Nat.beq len 0
 | _=>false
def boxOp (o:Oper):Bool:=match allocMk o.op with | some _=>true | none=>emptyMk o.op
def lateOp (o:Oper):Bool:=match valOp o with | true=>true | false=>boxOp o
def oneBox (o:Oper):Bool:=(match o.guard with | some _=>false | none=>true) && (match valOp o with | true=>true | false=>boxOp o)
def cntMk (ops:List Oper):Nat→Nat
 | 0=>0
 | j+1=>match valOp (ops.getD j default) with | true=>cntMk ops j | false=>cntMk ops j+1

def tailOp (o:Oper):Bool :=
 match o.op with
 | .store ..=>true
 | _=>mild o || isApp o

def okLate (ops:List Oper) (m:Nat) (late:List Nat):Bool :=
 let n:=ops.length
 let at_ (i:Nat):Oper:=ops.getD i default
 Nat.ble m (ops.takeWhile mildA).length &&
 (List.range n).all (fun i =>
  (at_ i).after.toList.all (fun e=>Nat.blt e.on i || !(bindsB e)) &&
  (match (at_ i).guard with | some (g,_)=>Nat.blt g i && Nat.blt i m | none=>true) &&
  (Nat.blt i m || (tailOp (at_ i) && !(isGuard ops i) &&
   (List.range i).all (fun j=>late.contains j || (List.range (i+1)).any fun s=>Nat.blt j s && (hasEdge (at_ s) j && (Nat.beq s i || !(late.contains s)))) &&
   (List.range i).all (fun j=>match (at_ j).dst with
    | some t=>(Nat.ble m j && !(late.contains j)) || ((!((tmpsOf (at_ i)).contains t) || !(late.contains j) || hasEdge (at_ i) j) && (match (at_ i).dst with | some u=>!(Nat.beq u t) | none=>true))
    | none=>true)))) &&
 (List.range m).all (fun i =>
  (List.range m).all (fun j =>
   match (at_ j).dst with
   | some t=>(!((tmpsOf (at_ i)).contains t) || (Nat.blt j i && hasEdge (at_ i) j)) && (Nat.beq i j || (match (at_ i).dst with | some u=>!(Nat.beq u t) | none=>true))
   | none=>true) &&
  (match (at_ i).guard with | some (g,_)=>hasEdge (at_ i) g | none=>true)) &&
 late.all fun j=>(match (at_ j).guard with | some _=>false | none=>true) && (match Nat.blt j m with
  | true=>lateOp (at_ j) && (match emptyMk (at_ j).op with | true=>(List.range j).all fun s=>oneBox (at_ s) | false=>true)
  | false=>Nat.blt m j && (valOp (at_ j) && late.all fun i=>Nat.blt j i || (match (at_ j).dst with | some t=>!((tmpsOf (at_ i)).contains t) | none=>true)))

def renEd (f:Nat→Nat) (e:Edge):Edge:={ e with on:=f e.on }
def renOp (f:Nat→Nat) (o:Oper):Oper:={ o with after:=(o.after.toList.map (renEd f)).toArray,guard:=match o.guard with | some x=>some (f x.1,x.2) | none=>none }
def posN:List Nat→Nat→Nat
 | [],_=>0
 | i::r,j=>match Nat.beq i j with | true=>0 | false=>posN r j+1
def permL (ops:List Oper) (p:List Nat):List Oper:=p.map fun i=>renOp (posN p) (ops.getD i default)
def permOK (n:Nat) (p:List Nat):Bool:=Nat.beq p.length n && (distinctB p && ((p.all fun i=>Nat.blt i n) && (List.range n).all fun i=>p.contains i))

def still (σ:St) (o:Oper):Prop :=
 opE T C σ o fun e=>match e,o.dst with
  | .val d,some t=>look σ.tmps t=some d
  | .val _,none=>True
  | .new b mk,some t=>∃ n,look σ.tmps t=some (mk n)∧σ.boxes[n]?=some b
  | _,_=>False

def stillE (ops:List Oper) (nb:Nat) (σ:St) (j:Nat):Prop:=match emptyMk (ops.getD j default).op with
 | false=>still T C σ (ops.getD j default)
 | true=>opE T C σ (ops.getD j default) fun e=>match e,(ops.getD j default).dst with
  | .new b mk,some t=>look σ.tmps t=some (mk 0)∧σ.boxes[nb+cntMk ops j]?=some b
  | _,_=>False

def stillAll (ops:List Oper) (nb:Nat) (σ:St):List Nat→Prop
 | []=>True
 | j::r=>stillE T C ops nb σ j∧stillAll ops nb σ r

def lateF (o:Oper):List Nat→List Nat
 | []=>[]
 | j::r=>match hasEdge o j with | true=>lateF o r | false=>j::lateF o r

def lowL (m:Nat):List Nat→List Nat
 | []=>[]
 | j::r=>match Nat.blt j m with | true=>j::lowL m r | false=>lowL m r

def runTail (ops:List Oper) (nb:Nat) (all:List Nat):Nat→List Nat→List Oper→St→(St→Prop)→Prop
 | _,_,[],σ,K=>K σ
 | i,late,o::r,σ,K=>match all.contains i with
  | true=>opE T C σ o fun e=>match e with
   | .val d=>putF σ o.dst (.val d) fun σ=>stillAll T C ops nb σ (i::late)∧runTail ops nb all (i+1) (i::late) r σ K
   | _=>False
  | false=>opE T C σ o fun e=>match e with
   | .val d=>putF σ o.dst (.val d) fun σ=>stillAll T C ops nb σ (lateF o late)∧runTail ops nb all (i+1) (lateF o late) r σ K
   | .set i' b d=>putF σ o.dst (.set i' b d) fun σ=>stillAll T C ops nb σ (lateF o late)∧runTail ops nb all (i+1) (lateF o late) r σ K
   | .res d as=>putF σ o.dst (.res d as) fun σ=>stillAll T C ops nb σ (lateF o late)∧runTail ops nb all (i+1) (lateF o late) r σ K
   | .new b mk=>putF σ o.dst (.new b mk) fun σ=>stillAll T C ops nb σ (lateF o late)∧runTail ops nb all (i+1) (lateF o late) r σ K
   | _=>False

def yOK (x:List D):Bool :=
 match x with
 | [.gmap ks us]=>match plainAll ks with | true=>plainAll us | false=>false
 | x=>plainAll x
def arrP (ps:List Nat) (x:List D) (tm:List (Nat × D)) (bs:List Box) (y:Yst):St :=
 match x with
 | [.gmap ks us]=>⟨setParams ps [.mloc bs.length] tm,bs++[.map false ks us],y⟩
 | x=>⟨setParams ps x tm,bs,y⟩
def arrE (ps:List Nat) (x:List D) (tm:List (Nat × D)) (bs:List Box) (y:Yst) (k:St→Prop):Prop :=
 match x with
 | [.gmap ks us]=>litN bs.length fun n=>forceL (bs++[.map false ks us]) fun bs=>k ⟨setParams ps [.mloc n] tm,bs,y⟩
 | x=>k ⟨setParams ps x tm,bs,y⟩
theorem arrE_eq (ps:List Nat) (x:List D) (tm:List (Nat × D)) (bs:List Box) (y:Yst) (k:St→Prop):arrE ps x tm bs y k=k (arrP ps x tm bs y):=by
 unfold arrE arrP
 split
 ·simp only [litN_eq,forceL_eq]
 ·rfl

noncomputable def panics (l:List Oper):Bool :=
 List.rec (motive:=fun _=>Bool) false (fun o r ih=>match r with
  | []=>(match o.op with
   | .panic _=>true
   | .call c=>(match c.callee with
    | .value (.func f)=>(match C.sh f with | true=>C.nw f | false=>false)
    | _=>false)
   | _=>false)
  | _::_=>ih) l

def dropT (u:Nat):List (Nat × D)→List (Nat × D)
 | []=>[]
 | (t,d)::r=>match Nat.beq t u with | true=>dropT u r | false=>(t,d)::dropT u r
theorem dropT_look {u t:Nat} {d:D}:∀ {l:List (Nat × D)},look (dropT u l) t=some d→t≠u∧look l t=some d
 | [],h=>by cases h
 | (k,e)::r,h=>by
  unfold dropT at h
  split at h
  ·rename_i hb
   have hb:=Nat.eq_of_beq_eq_true hb
   subst hb
   obtain ⟨h1,h2⟩:=dropT_look h
   refine ⟨h1,?_⟩
   simp only [look]
   rw [show Nat.beq k t=false from Bool.eq_false_iff.2 fun hh=>h1 (Nat.eq_of_beq_eq_true hh).symm]
   exact h2
  ·rename_i hb
   simp only [look] at h ⊢
   split at h
   ·rename_i hb2
    have hb2:=Nat.eq_of_beq_eq_true hb2
    subst hb2
    refine ⟨fun e2=>?_,h⟩
    subst e2
    simp at hb
   ·exact dropT_look h

def panE (σ:St) (o:Oper) (Q:Ex→St→Prop):Prop :=
 match o.guard,o.op with
 | none,.call c=>match c.callee with
  | .value f=>match σ.ev f,σ.evL c.args.toList with
   | some (.clo (.func fk) fs cs),some as=>∃ rs,reifyL σ.boxes (fs++(as++cs))=some rs∧∃ v,C.pan fk rs v∧match v with
    | none=>(∀ t,o.dst=some t→look σ.tmps t=none)∧Q .normal σ
    | some v=>Q (.panic v) σ
   | _,_=>False
  | _=>False
 | _,_=>False

def panW (run:List Oper→St→(St→Prop)→Prop) (ops:List Oper) (σ:St) (Q:Ex→St→Prop):Prop :=
 match ops with
 | [o1,o2]=>(match o1.op,o2.op,o1.guard,o2.guard,o1.dst with
  | .makeInterface t (.const (.int k n)),.panic (.tmp u),none,none,some u'=>u=u'∧(∃ ti kd,T t=some ti∧ti.desc=.int kd)∧Q (.panic (.iface t (.int k n))) ⟨dropT u σ.tmps,σ.boxes,σ.y⟩
  | _,_,_,_,_=>run [o1] σ fun τ=>panE C τ o2 Q)
 | ops=>run ops.dropLast σ fun τ=>match ops.getLast? with
  | some o=>panE C τ o Q
  | none=>False

def rangeX (kf:Nat) (cs:List D) (ps:List Nat) (lo:Nat) (σ:St) (Q:Ex→St→Prop) (wa wc:Nat→St→(Ex→St→Prop)→Prop):Prop :=
 ∃ (m:Nat) (caps':List D) (bsX:List Box),renL (fun i=>i+m) caps'=cs∧bsX.map (Box.ren fun i=>i+m)=σ.boxes.drop m∧noFz bsX=true∧∃ xs,It.itx kf caps' bsX xs ∧
  ∃ (keep:List Nat) (nb:Nat) (vs:List (Nat × Nat × Nat)) (Inv:Nat→List Box→Yst→Prop),Nat.ble nb m=true∧Nat.ble lo nb=true∧(σ.clean keep nb).good nb ∧
   Inv 0 (St.vec (σ.clean keep nb) (cellsPl vs)).boxes σ.y ∧
   (∀ i x bs y,xs[i]?=some x→Inv i bs y→arrE ps x (σ.clean keep nb).tmps bs y fun σ₀=>wa (nb+vs.length) σ₀ fun e σ₁=>match e with
    | .normal=>wc (nb+vs.length) σ₁ fun e σ₂=>match e with
     | .normal=>okBoxes (nb+vs.length) (σ₂.boxes.take (nb+vs.length))=true∧Inv (i+1) (σ₂.boxes.take (nb+vs.length)) σ₂.y
     | .exit id=>Q (.exit id) ⟨(σ.clean keep nb).tmps,σ₂.boxes,σ₂.y⟩
     | .ret=>Q .ret ⟨(σ.clean keep nb).tmps,σ₂.boxes,σ₂.y⟩
     | .panic _=>False
    | _=>False) ∧
   (∀ x,x∈xs→x.length=ps.length∧yOK x=true) ∧
   ∀ bs y,Inv xs.length bs y→Q .normal ⟨(σ.clean keep nb).tmps,bs,y⟩

def W:Nat→Code→St→(Ex→St→Prop)→Prop
 | _,.skip,σ,Q=>Q .normal σ
 | lo,.region _ ops dr,σ,Q =>
  match dr with
  | false=>match panics C ops.toList with
   | false=>runOps T C (noFb lo) ops.toList ops.toList 0 σ fun σ'=>Q .normal σ'
   | true=>panW T C (fun l σ K=>runOps T C (noFb lo) ops.toList l 0 σ K) ops.toList σ Q
  | true=>(okDraw ops.toList=true∧runOps T C drFb ops.toList ops.toList 0 σ fun σ'=>Q .normal σ') ∨
      ((∃ (m:Nat) (late:List Nat),okLate ops.toList m late=true∧runOps T C stFb ops.toList (ops.toList.take m) 0 σ fun τ=>runTail T C ops.toList σ.boxes.length late m (lowL m late) (ops.toList.drop m) τ fun σ'=>Q .normal σ') ∨
      ((∃ (p:List Nat) (m:Nat) (late:List Nat),(permOK ops.toList.length p && okLate (permL ops.toList p) m late)=true∧runOps T C stFb (permL ops.toList p) ((permL ops.toList p).take m) 0 σ fun τ=>runTail T C (permL ops.toList p) σ.boxes.length late m (lowL m late) ((permL ops.toList p).drop m) τ fun σ'=>Q .normal σ') ∨
      (∃ m:Nat,okDrawM ops.toList m=true∧runOps T C drFb ops.toList (ops.toList.take m) 0 σ fun τ=>runOps T C tlFb ops.toList (ops.toList.drop m) m τ fun σ'=>Q .normal σ')))
 | lo,.seq a b,σ,Q=>W lo a σ fun e σ'=>match e with
  | .normal=>W lo b σ' Q
  | .exit id=>Q (.exit id) σ'
  | .ret=>Q .ret σ'
  | .panic v=>Q (.panic v) σ'
 | lo,.cond c a b,σ,Q=>match σ.ev c with
  | some .tt=>W lo a σ Q
  | some .ff=>W lo b σ Q
  | some (.bool t)=>(t=true→W lo a σ Q)∧(t=false→W lo b σ Q)
  | _=>False
 | lo,.block id c,σ,Q=>W lo c σ fun e σ'=>match e with
  | .normal=>Q .normal σ'
  | .exit id'=>match Nat.beq id' id with
   | true=>Q .normal σ'
   | false=>Q (.exit id') σ'
  | .ret=>Q .ret σ'
  | .panic v=>Q (.panic v) σ'
 | lo,.loop c,σ,Q=>∃ (keep:List Nat) (nb:Nat) (vs:List (Pl × Nat)) (Inv:St→Prop) (μ:St→Nat),
     Nat.ble lo nb=true∧((σ.fzs lo vs).clean keep nb).good nb∧Inv (((σ.fzs lo vs).clean keep nb).vec vs) ∧
     ∀ σ',Inv σ'→W lo c σ' fun e σ''=>match e with
      | .normal=>((σ''.fzs lo vs).clean keep (nb+nvs vs)).good (nb+nvs vs)∧Inv ((σ''.fzs lo vs).clean keep (nb+nvs vs))∧μ ((σ''.fzs lo vs).clean keep (nb+nvs vs))<μ σ'
      | .exit id=>Q (.exit id) σ''
      | .ret=>Q .ret σ''
      | .panic v=>Q (.panic v) σ''
 | _,.exit id,σ,Q=>Q (.exit id) σ
 | _,.ret,σ,Q=>Q .ret σ
 | _,.label _,σ,Q=>Q .normal σ
 | lo,.scope c,σ,Q=>W lo c σ Q
 | _,.goto _,_,_=>False
 | lo,.rangeFunc f ps as c,σ,Q=>match σ.ev f with
  | some (.clo (.func kf) fs cs)=>fs=[]∧match It.sh kf with
   | true=>rangeX It kf cs ps.toList lo σ Q (fun lo σ Q=>W lo as σ Q) (fun lo σ Q=>W lo c σ Q)
   | false=>∃ rs,reifyL σ.boxes cs=some rs∧∃ xs,It.it kf rs xs∧∃ (nb:Nat) (vs:List (Nat × Nat × Nat)) (Inv:Nat→List Box→Yst→Prop),
    Nat.ble lo nb=true∧okTmps nb σ.tmps=true∧okBoxes nb ((freezeIn σ.boxes 0 (cs.flatMap (touch σ.boxes fuel))).take nb)=true ∧
    Inv 0 (St.vec ⟨σ.tmps,(freezeIn σ.boxes 0 (cs.flatMap (touch σ.boxes fuel))).take nb,σ.y⟩ (cellsPl vs)).boxes σ.y ∧
    (∀ i x bs y,xs[i]?=some x→Inv i bs y→arrE ps.toList x σ.tmps bs y fun σ₀=>W (nb+vs.length) as σ₀ fun e σ₁=>match e with
     | .normal=>W (nb+vs.length) c σ₁ fun e σ₂=>match e with
      | .normal=>okBoxes (nb+vs.length) (σ₂.boxes.take (nb+vs.length))=true∧Inv (i+1) (σ₂.boxes.take (nb+vs.length)) σ₂.y
      | .exit id=>Q (.exit id) ⟨σ.tmps,σ₂.boxes,σ₂.y⟩
      | .ret=>Q .ret ⟨σ.tmps,σ₂.boxes,σ₂.y⟩
      | .panic _=>False
     | _=>False) ∧
    (∀ x,x∈xs→x.length=ps.size∧yOK x=true) ∧
    ∀ bs y,Inv xs.length bs y→Q .normal ⟨σ.tmps,bs,y⟩
  | _=>False
 | _,.refuse _,_,_=>False

/-! The same,by the recursors themselves: Lean's kernel and its elaborator unfold them alike. -/

def rNil:Nat→St→(St→Prop)→Prop:=fun _ σ K=>K σ
def rCons (fb:Eff→Bool) (ops:List Oper) (o:Oper) (_:List Oper) (ih:Nat→St→(St→Prop)→Prop):Nat→St→(St→Prop)→Prop:=fun i σ K =>
 match o.guard with
 | none=>stepE T C fb (isGuard ops i) σ o fun σ'=>ih (i+1) σ' K
 | some (j,want) =>
  match guardUnd ops σ j with
  | true=>ih (i+1) (σ.put o.dst .skp) K
  | false =>
   match guardOf ops σ j,want with
   | some true,true=>stepE T C fb (isGuard ops i) σ o fun σ'=>ih (i+1) σ' K
   | some false,false=>stepE T C fb (isGuard ops i) σ o fun σ'=>ih (i+1) σ' K
   | some true,false=>ih (i+1) (σ.put o.dst .skp) K
   | some false,true=>ih (i+1) (σ.put o.dst .skp) K
   | none,_=>False
def runR (fb:Eff→Bool) (ops l:List Oper):Nat→St→(St→Prop)→Prop :=
 List.rec (motive:=fun _=>Nat→St→(St→Prop)→Prop) rNil (rCons T C fb ops) l

theorem runR_eq (fb:Eff→Bool) (ops:List Oper):∀ l,runR T C fb ops l=runOps T C fb ops l
 | []=>rfl
 | o::rest=>by
  have ih:=runR_eq fb ops rest
  have e:runR T C fb ops (o::rest)=rCons T C fb ops o rest (runR T C fb ops rest):=rfl
  rw [e,ih]
  funext i σ K
  rfl

def tNil:Nat→List Nat→St→(St→Prop)→Prop:=fun _ _ σ K=>K σ
def tCons (ops:List Oper) (nb:Nat) (all:List Nat) (o:Oper) (_:List Oper) (ih:Nat→List Nat→St→(St→Prop)→Prop):Nat→List Nat→St→(St→Prop)→Prop:=fun i late σ K =>
 match all.contains i with
 | true=>opE T C σ o fun e=>match e with
  | .val d=>putF σ o.dst (.val d) fun σ=>stillAll T C ops nb σ (i::late)∧ih (i+1) (i::late) σ K
  | _=>False
 | false=>opE T C σ o fun e=>match e with
  | .val d=>putF σ o.dst (.val d) fun σ=>stillAll T C ops nb σ (lateF o late)∧ih (i+1) (lateF o late) σ K
  | .set i' b d=>putF σ o.dst (.set i' b d) fun σ=>stillAll T C ops nb σ (lateF o late)∧ih (i+1) (lateF o late) σ K
  | .res d as=>putF σ o.dst (.res d as) fun σ=>stillAll T C ops nb σ (lateF o late)∧ih (i+1) (lateF o late) σ K
  | .new b mk=>putF σ o.dst (.new b mk) fun σ=>stillAll T C ops nb σ (lateF o late)∧ih (i+1) (lateF o late) σ K
  | _=>False
def tailR (ops:List Oper) (nb:Nat) (all:List Nat) (i:Nat) (late:List Nat) (l:List Oper):St→(St→Prop)→Prop :=
 List.rec (motive:=fun _=>Nat→List Nat→St→(St→Prop)→Prop) tNil (tCons T C ops nb all) l i late

theorem tailR_eq (ops:List Oper) (nb:Nat) (all:List Nat):∀ (l:List Oper) (i:Nat) (late:List Nat),tailR T C ops nb all i late l=runTail T C ops nb all i late l
 | [],_,_=>rfl
 | o::rest,i,late=>by
  have ih:=tailR_eq ops nb all rest
  have e:tailR T C ops nb all i late (o::rest)=tCons T C ops nb all o rest (fun i late=>tailR T C ops nb all i late rest) i late:=rfl
  rw [e]
  simp only [ih]
  funext σ K
  rfl

abbrev WTr:=Nat→St→(Ex→St→Prop)→Prop
def wSkip:WTr:=fun _ σ Q=>Q .normal σ
def wRegion (_:Nat) (ops:Array Oper) (dr:Bool):WTr:=fun lo σ Q =>
 match dr with
 | false=>match panics C ops.toList with
  | false=>runR T C (noFb lo) ops.toList ops.toList 0 σ fun σ'=>Q .normal σ'
  | true=>panW T C (fun l σ K=>runR T C (noFb lo) ops.toList l 0 σ K) ops.toList σ Q
 | true=>(okDraw ops.toList=true∧runR T C drFb ops.toList ops.toList 0 σ fun σ'=>Q .normal σ') ∨
     ((∃ (m:Nat) (late:List Nat),okLate ops.toList m late=true∧runR T C stFb ops.toList (ops.toList.take m) 0 σ fun τ=>tailR T C ops.toList σ.boxes.length late m (lowL m late) (ops.toList.drop m) τ fun σ'=>Q .normal σ') ∨
     ((∃ (p:List Nat) (m:Nat) (late:List Nat),(permOK ops.toList.length p && okLate (permL ops.toList p) m late)=true∧runR T C stFb (permL ops.toList p) ((permL ops.toList p).take m) 0 σ fun τ=>tailR T C (permL ops.toList p) σ.boxes.length late m (lowL m late) ((permL ops.toList p).drop m) τ fun σ'=>Q .normal σ') ∨
     (∃ m:Nat,okDrawM ops.toList m=true∧runR T C drFb ops.toList (ops.toList.take m) 0 σ fun τ=>runR T C tlFb ops.toList (ops.toList.drop m) m τ fun σ'=>Q .normal σ')))
def wSeq (_ _:Code) (wa wb:WTr):WTr:=fun lo σ Q=>wa lo σ fun e σ'=>match e with
 | .normal=>wb lo σ' Q
 | .exit id=>Q (.exit id) σ'
 | .ret=>Q .ret σ'
 | .panic v=>Q (.panic v) σ'
def wCond (c:Operand) (_ _:Code) (wa wb:WTr):WTr:=fun lo σ Q=>match σ.ev c with
 | some .tt=>wa lo σ Q
 | some .ff=>wb lo σ Q
 | some (.bool t)=>(t=true→wa lo σ Q)∧(t=false→wb lo σ Q)
 | _=>False
def wBlock (id:Nat) (_:Code) (wc:WTr):WTr:=fun lo σ Q=>wc lo σ fun e σ'=>match e with
 | .normal=>Q .normal σ'
 | .exit id'=>match Nat.beq id' id with
  | true=>Q .normal σ'
  | false=>Q (.exit id') σ'
 | .ret=>Q .ret σ'
 | .panic v=>Q (.panic v) σ'
def wLoop (_:Code) (wc:WTr):WTr:=fun lo σ Q=>∃ (keep:List Nat) (nb:Nat) (vs:List (Pl × Nat)) (Inv:St→Prop) (μ:St→Nat),
 Nat.ble lo nb=true∧((σ.fzs lo vs).clean keep nb).good nb∧Inv (((σ.fzs lo vs).clean keep nb).vec vs) ∧
 ∀ σ',Inv σ'→wc lo σ' fun e σ''=>match e with
  | .normal=>((σ''.fzs lo vs).clean keep (nb+nvs vs)).good (nb+nvs vs)∧Inv ((σ''.fzs lo vs).clean keep (nb+nvs vs))∧μ ((σ''.fzs lo vs).clean keep (nb+nvs vs))<μ σ'
  | .exit id=>Q (.exit id) σ''
  | .ret=>Q .ret σ''
  | .panic v=>Q (.panic v) σ''
def wRange (f:Operand) (ps:Array Nat) (_ _:Code) (wa wc:WTr):WTr:=fun lo σ Q=>match σ.ev f with
 | some (.clo (.func kf) fs cs)=>fs=[]∧match It.sh kf with
  | true=>rangeX It kf cs ps.toList lo σ Q wa wc
  | false=>∃ rs,reifyL σ.boxes cs=some rs∧∃ xs,It.it kf rs xs∧∃ (nb:Nat) (vs:List (Nat × Nat × Nat)) (Inv:Nat→List Box→Yst→Prop),
   Nat.ble lo nb=true∧okTmps nb σ.tmps=true∧okBoxes nb ((freezeIn σ.boxes 0 (cs.flatMap (touch σ.boxes fuel))).take nb)=true ∧
   Inv 0 (St.vec ⟨σ.tmps,(freezeIn σ.boxes 0 (cs.flatMap (touch σ.boxes fuel))).take nb,σ.y⟩ (cellsPl vs)).boxes σ.y ∧
   (∀ i x bs y,xs[i]?=some x→Inv i bs y→arrE ps.toList x σ.tmps bs y fun σ₀=>wa (nb+vs.length) σ₀ fun e σ₁=>match e with
    | .normal=>wc (nb+vs.length) σ₁ fun e σ₂=>match e with
     | .normal=>okBoxes (nb+vs.length) (σ₂.boxes.take (nb+vs.length))=true∧Inv (i+1) (σ₂.boxes.take (nb+vs.length)) σ₂.y
     | .exit id=>Q (.exit id) ⟨σ.tmps,σ₂.boxes,σ₂.y⟩
     | .ret=>Q .ret ⟨σ.tmps,σ₂.boxes,σ₂.y⟩
     | .panic _=>False
    | _=>False) ∧
   (∀ x,x∈xs→x.length=ps.size∧yOK x=true) ∧
   ∀ bs y,Inv xs.length bs y→Q .normal ⟨σ.tmps,bs,y⟩
 | _=>False

def wExit (id:Nat):WTr:=fun _ σ Q=>Q (.exit id) σ
def wScope (_:Code) (wc:WTr):WTr:=fun lo σ Q=>wc lo σ Q
def wLabel (_:Nat):WTr:=fun _ σ Q=>Q .normal σ
def wGoto (_:Nat):WTr:=fun _ _ _=>False
def wRet:WTr:=fun _ σ Q=>Q .ret σ
def wRefuse (_:String):WTr:=fun _ _ _=>False

def WR (c:Code):WTr :=
 Code.rec (motive:=fun _=>WTr) wSkip (wRegion T C) wSeq wCond wBlock wLoop (wRange It) wExit wScope wLabel wGoto wRet wRefuse c

theorem WR_eq:∀ c:Code,WR T C It c=fun lo σ Q=>W T C It lo c σ Q:=by
 intro c
 induction c with
 | skip=>rfl
 | region id ops dr =>
  funext lo σ Q
  show wRegion T C id ops dr lo σ Q=_
  unfold wRegion
  simp only [runR_eq,tailR_eq]
  cases dr <;> rfl
 | seq a b iha ihb =>
  show wSeq a b (WR T C It a) (WR T C It b)=_
  rw [iha,ihb];rfl
 | cond x a b iha ihb =>
  show wCond x a b (WR T C It a) (WR T C It b)=_
  rw [iha,ihb];rfl
 | block id x ih =>
  show wBlock id x (WR T C It x)=_
  rw [ih];rfl
 | loop x ih =>
  show wLoop x (WR T C It x)=_
  rw [ih];rfl
 | rangeFunc f ps as x iha ihx =>
  show wRange It f ps as x (WR T C It as) (WR T C It x)=_
  rw [iha,ihx];rfl
 | exit id=>rfl
 | scope x ih =>
  show wScope x (WR T C It x)=_
  rw [ih];rfl
 | label l=>rfl
 | goto l=>rfl
 | ret=>rfl
 | refuse why=>rfl

def resE (σ:St):ResultVar→Option D
 | .tmp t=>look σ.tmps t
 | .cell a t=>match T t,look σ.tmps a with
  | some ti,some (.loc i off)=>match σ.boxes[i]? with
   | some (.flat _ cells)=>match ti.agg with
    | true=>readAgg cells off ti.size
    | false=>cells[off]?
   | _=>none
  | _,_=>none

def resL (σ:St):List ResultVar→Option (List D)
 | []=>some []
 | r::rs=>match resE T σ r with
  | none=>none
  | some d=>match resL σ rs with
   | none=>none
   | some l=>some (d::l)

def resultD (fn:Func) (σ:St):Option D :=
 match resL T σ fn.results.toList with
 | none=>none
 | some l=>match l with
  | [d]=>reify σ.boxes fuel d
  | l=>reify σ.boxes fuel (.tup l)

def args0:List D→Nat→List (Nat × D)
 | [],_=>[]
 | d::r,i=>(i,d)::args0 r (i+1)

def Body (fn:Func) (args:List D) (d:D):Prop :=
 match fn.body with
 | some c=>forceL (args0 args 0) fun tm=>WR T C It c 0 ⟨tm,[],.non⟩ fun e σ=>match e with
  | .exit _=>False
  | .panic _=>False
  | _=>resultD T fn σ=some d
 | none=>False

def normB:D→D
 | .tt=>.bool true
 | .ff=>.bool false
 | d=>d

inductive Wk:D→D→Prop
 | refl (d:D):Wk d d
 | nil (a b:Nat):Wk (.list a []) (.list b [])
 | rows (sz:Nat) (rows:List (List D)):Wk (.list sz rows) (.list sz (rows.map (·.map normB)))
 | und (d:D):Wk d .und
 | tnil:Wk (.tup []) (.tup [])
 | tcons {a b:D} {r s:List D}:Wk a b→Wk (.tup r) (.tup s)→Wk (.tup (a::r)) (.tup (b::s))

def BodyW (fn:Func) (args:List D) (d:D):Prop :=
 match fn.body with
 | some c=>forceL (args0 args 0) fun tm=>WR T C It c 0 ⟨tm,[],.non⟩ fun e σ=>match e with
  | .exit _=>False
  | .panic _=>False
  | _=>∃ d0,resultD T fn σ=some d0∧Wk d0 d
 | none=>False

def BodyIter (fn:Func) (args:List D) (xs:List (List D)):Prop :=
 match fn.body with
 | some c=>∀ l,forceL (args0 (.yld l::args) 0) fun tm=>WR T C It c 0 ⟨tm,[],.rem l xs⟩ fun e σ=>match e,σ.y with
  | .exit _,_=>False
  | .panic _,_=>False
  | _,.rem _ []=>fn.results.toList.length=0
  | _,.stopped=>fn.results.toList.length=0
  | _,_=>False
 | none=>False

def resultY (fn:Func) (σ:St):Option D :=
 match resL T σ fn.results.toList with
 | none=>none
 | some l=>match l with
  | [d]=>some d
  | l=>some (.tup l)

def BodyY (fn:Func) (args:List D) (bs:List Box) (y:Yst) (Q:D→List Box→Yst→Prop):Prop :=
 match fn.body with
 | some c=>forceL (args0 args 0) fun tm=>WR T C It c bs.length ⟨tm,bs,y⟩ fun e σ=>match e with
  | .exit _=>False
  | .panic _=>False
  | _=>∃ d,resultY T fn σ=some d∧Q d σ.boxes σ.y
 | none=>False

end

end Go.V
