/- Part of the proof of the statement that the claim's last text names: contracts of functions and laws of the symbolic layer. -/
import Derived.Test.YtidbmbpeblmliaaGreatDoorO00
set_option linter.unusedVariables false
set_option linter.unusedSimpArgs false
namespace Go.Sym
def valC:Value→C
 | .int k n=>.int k n
 | .bool b=>.bool b
 | .string s=>match Nat.ble s.size 9223372036854775807 with
  | true=>.str s
  | false=>.lit (.string s)
 | .slice none 0 0=>.nil
 | .agg _=>.junk
 | .tuple _=>.junk
 | v=>.lit v
def constSB(v:Value):Option SB:=
 match v with
 | .agg cs=>if cs.all Value.oneCell' then some (.v (.agg (cs.toList.map valC))) else none
 | .tuple _=>none
 | v=>some (.v (.c (valC v)))
def eqPath:Path→Path→Bool
 | [],[]=>true
 | (j,b) :: p,(k,c) :: q=>Nat.beq j k&&(match b,c with | true,true=>true | false,false=>true | _,_=>false)&&eqPath p q
 | _,_=>false
def sfx(p:Path):Path→Bool
 | []=>eqPath p []
 | x :: q=>eqPath p (x :: q)||sfx p q
inductive Hint where
 | no
 | call (r:SB)
 | at (i:Option Nat)
 | frz (n:Nat) (f:Nat→List C)
 | frzA (n:Nat) (f:Nat→List C)
 | imm
 | own (ns hid:List Nat) (r:SB) (m1:List (Nat×MO))
 | key (o:Option Nat) (cs:List C)
 | look (b:Bool) (cs:List C)
 | put (ents:List (List C×List C))
 | mark
def Hint.elder:Hint→Bool
 | .frzA ..=>true
 | _=>false
def S.ev(s:S)(p:Path):Operand→Option SB
 | .tmp t=>match s.t[t]? with
  | some (.b x)=>some x
  | some (.pin _ x)=>some x
  | some (.may q x)=>if sfx q p then some x else none
  | _=>none
 | .const v=>constSB v
 | .func f=>some (.v (.c (.clo f [])))
 | .global _=>none
def cvCells:CV→List C
 | .c x=>[x]
 | .agg cs=>cs
 | .pagg cs=>cs
def isAggT(P:Program)(t:TypeId):Bool:=
 match P.underlying t with
 | some (.struct _) | some (.array _ _)=>true
 | _=>false
def sizeT(P:Program)(t:TypeId):Nat:=((P.info? t).map (·.size)).getD 0
def zeroT(P:Program)(t:TypeId):Option Value:=(P.info? t).bind (·.zero)
def bytesT(P:Program)(t:TypeId):Nat:=((P.info? t).map (·.bytes)).getD 0
def tyOk(P:Program)(t:TypeId):Bool:=Nat.blt 0 (sizeT P t)&&(P.underlying t).isSome&&(isAggT P t||Nat.beq (sizeT P t) 1)
def sub(cs:List C)(off n:Nat):List C:=(cs.drop off).take n
def splice(cs:List C)(off:Nat)(new:List C):List C:=cs.take off++new++cs.drop (off+new.length)
def part(P:Program)(own:Bool)(t:TypeId)(cs:List C)(off:Nat):CV:=
 if isAggT P t then (if own then .pagg (sub cs off (sizeT P t)) else .agg (sub cs off (sizeT P t))) else .c (cs.getD off .junk)
def Op.names(op:Op)(d:Option Nat)(vs:List SB):List Nat:=
 match op,vs with
 | .alloc _,_=>d.toList
 | .box _ _,_=>d.toList
 | .buildSlice _ _ _,_=>d.toList
 | .makeSlice _ _ _,_=>d.toList
 | .load _ _,.v (.c (.ptr n _)) :: _=>[n]
 | .load _ _,.v (.c (.rel n _ _ _ _)) :: _=>[n]
 | .store _ _ _,.v (.c (.ptr n _)) :: _=>[n]
 | .store _ _ _,.v (.c (.rel n _ _ _ _)) :: _=>[n]
 | .fieldAddr _ _ _,.v (.c (.rel n _ _ _ _)) :: _=>[n]
 | .indexAddr _ _ _,.v (.c (.row n _)) :: _=>[n]
 | .indexAddr _ _ _,.v (.c (.rel n _ _ _ _)) :: _=>[n]
 | .call { callee:=.builtin .len,.. },.v (.c (.row n _)) :: _=>[n]
 | .call { callee:=.builtin .len,.. },.v (.c (.omap n)) :: _=>[n]
 | .call { callee:=.builtin .append,.. },[.v (.c (.row r _)),.v (.c (.row q _))]=>[r,q]
 | .call { callee:=.builtin .append,.. },.v (.c (.row r _)) :: _=>[r]
 | .makeMap _ _,_=>d.toList
 | .insert _ _ _ _,.v (.c (.omap n)) :: _=>[n]
 | .lookup _ _ _ _,.v (.c (.omap n)) :: _=>[n]
 | .mapEntry _ _ _,.v (.c (.omap n)) :: _=>[n]
 | .entryStore _ _ _ _,.v (.c (.omap n)) :: _=>[n]
 | .mapUpdate _ _ _ _,.v (.c (.omap n)) :: _=>[n]
 | _,_=>[]
def Op.writes:Op→Bool
 | .alloc _ | .box _ _ | .buildSlice _ _ _ | .makeSlice _ _ _ | .store _ _ _ | .makeMap _ _ | .insert _ _ _ _ | .mapEntry _ _ _ | .entryStore _ _ _ _ | .mapUpdate _ _ _ _=>true
 | .call { callee:=.builtin .append,.. }=>true
 | _=>false
def Op.wr(op:Op)(h:Hint):Bool:=
 match op,h with
 | .buildSlice _ _ _,.frz _ _=>false
 | .makeSlice _ _ _,.frz _ _=>false
 | .box _ _,.imm=>false
 | op,_=>Op.writes op
theorem Op.wr_le{op:Op}{h:Hint}(hw:Op.writes op=false):Op.wr op h=false:=by
 unfold Op.wr
 split<;>first | rfl | exact hw
def andI(k:IntKind)(a b:Int):Int:=k.wrap ((BitVec.ofInt k.bits a &&& BitVec.ofInt k.bits b).toNat:Int)
def orI(k:IntKind)(a b:Int):Int:=k.wrap ((BitVec.ofInt k.bits a ||| BitVec.ofInt k.bits b).toNat:Int)
def xorI(k:IntKind)(a b:Int):Int:=k.wrap ((BitVec.ofInt k.bits a ^^^ BitVec.ofInt k.bits b).toNat:Int)
def andNotI(k:IntKind)(a b:Int):Int:=k.wrap ((BitVec.ofInt k.bits a &&& ~~~BitVec.ofInt k.bits b).toNat:Int)
def arith(op:BinOp)(k:IntKind)(a b:Int):Option (C×List Prop):=
 match op with
 | .and=>some (.int k (andI k a b),[])
 | .or=>some (.int k (orI k a b),[])
 | .xor=>some (.int k (xorI k a b),[])
 | .andNot=>some (.int k (andNotI k a b),[])
 | .add=>some (.int k (k.wrap (a+b)),[])
 | .sub=>some (.int k (k.wrap (a - b)),[])
 | .mul=>some (.int k (k.wrap (a*b)),[])
 | .quo=>some (.int k (k.wrap (a.tdiv b)),[b≠0])
 | .rem=>some (.int k (a.tmod b),[b≠0])
 | .shr=>some (.int k (a.fdiv (2 ^ b.toNat)),[0≤b∧b≤(k.bits:Int)])
 | .shl=>some (.int k (k.wrap (a*2 ^ b.toNat)),[0≤b∧b≤(k.bits:Int)])
 | .eql=>some (.bool (a==b),[])
 | .neq=>some (.bool (a != b),[])
 | .lss=>some (.bool (decide (a<b)),[])
 | .leq=>some (.bool (decide (a≤b)),[])
 | .gtr=>some (.bool (decide (a>b)),[])
 | .geq=>some (.bool (decide (a≥b)),[])
def kindEq:IntKind→IntKind→Bool
 | .i8,.i8 | .i16,.i16 | .i32,.i32 | .i64,.i64 | .u8,.u8 | .u16,.u16 | .u32,.u32 | .u64,.u64=>true
 | _,_=>false
def eqCells:List C→List C→Option Bool
 | [],[]=>some true
 | .int k a :: cs,.int k' b :: ds=>if kindEq k k' then (eqCells cs ds).map (a==b&&·) else none
 | .bool a :: cs,.bool b :: ds=>(eqCells cs ds).map (a==b&&·)
 | .str a :: cs,.str b :: ds=>(eqCells cs ds).map (a.toList==b.toList&&·)
 | _,_=>none
inductive Flat where
 | int (k:IntKind)
 | bool
 | str
def flatOf:List C→Option (List Flat)
 | []=>some []
 | .int k _ :: cs=>(flatOf cs).map (.int k :: ·)
 | .bool _ :: cs=>(flatOf cs).map (.bool :: ·)
 | .str _ :: cs=>(flatOf cs).map (.str :: ·)
 | _=>none
def Flat.val:Flat→Value→Prop
 | .int k,u=>∃ n,u=.int k n
 | .bool,u=>∃ b,u=.bool b
 | .str,u=>∃ s,u=.string s
def eqVals:List Value→List Value→Bool
 | [],[]=>true
 | .int _ a :: us,.int _ b :: vs=>a==b&&eqVals us vs
 | .bool a :: us,.bool b :: vs=>a==b&&eqVals us vs
 | .string a :: us,.string b :: vs=>a.toList==b.toList&&eqVals us vs
 | _,_=>false
def EqTy(P:Program)(t:TypeId)(fs:List Flat):Prop:=
 ∀ (w:World) (us vs:List Value) (x y:Operand),us.length=fs.length→vs.length=fs.length→(∀ (j:Nat) (f:Flat) (u:Value),fs[j]?=some f→us[j]?=some u→Flat.val f u)→(∀ (j:Nat) (f:Flat) (u:Value),fs[j]?=some f→vs[j]?=some u→Flat.val f u) →
  (eqGuard .eql t x y (.agg us.toArray) (.agg vs.toArray)).run P w=.ok () w∧(eqGuard .neq t x y (.agg us.toArray) (.agg vs.toArray)).run P w=.ok () w ∧
  (Op.equal t (.agg us.toArray) (.agg vs.toArray)).run P w=.ok (eqVals us vs) w
def FCall(P:Program)(f:FuncId)(args:List CV)(r:SB):Prop:=
 (∃ fn,P.funcs[f]?=some fn∧fn.body.isSome=true∧(fn.name== "runtime.NumGoroutine")=false) ∧
 ∀ (K:Know) (w:World) (vs:Array Value),Laid P K→Knows K w→vs.size=args.length→(∀ j,j<args.length→RelCVK K (args.getD j (.c .junk)) (vs.getD j undef)) →
  Calls P f vs w fun e w'=>∃ K' v,K.le K'∧(∀ b,b<w.heap.size→K b=none→K' b=none)∧Knows K' w'∧Go.RowKit.Below w.heap.size w w'∧e=.returned v∧RelSBK K' r v
def allV:List SB→Option (List CV)
 | []=>some []
 | .v x :: xs=>(allV xs).map (x :: ·)
 | _=>none
def allImm:List CV→Bool
 | []=>true
 | x :: xs=>x.isImm&&allImm xs
def fillC(place:Nat→Option (Nat×Nat))(cs:List C):List (Nat×CV)→Option (List C)
 | []=>some cs
 | (i,v) :: rest=>match place i with
  | none=>none
  | some (off,size)=>match Nat.beq (cvCells v).length size&&Nat.ble (off+(cvCells v).length) cs.length with
   | true=>fillC place (splice cs off (cvCells v)) rest
   | false=>none
def allImmC:List (Nat×CV)→Bool
 | []=>true
 | (_,x) :: xs=>x.isImm&&allImmC xs
def zipParts:List (Nat×Operand)→List SB→Option (List (Nat×CV))
 | [],[]=>some []
 | (i,_) :: ps,.v x :: xs=>(zipParts ps xs).map ((i,x) :: ·)
 | _,_=>none
def allP:List Prop→Prop
 | []=>True
 | [p]=>p
 | p :: q :: r=>p∧allP (q :: r)
theorem allP_cons{p:Prop}{l:List Prop}:allP (p :: l)↔p∧allP l:=by
 cases l with
 | nil=>simp [allP]
 | cons q r=>rfl
abbrev Got:=Option (SB×List (Option (Option MO))×List Prop)
def ckPart(P:Program)(t:TypeId)(off len:Nat):Bool:=Nat.ble (off+sizeT P t) len&&tyOk P t
theorem ckPart_spec{P:Program}{t:TypeId}{off len:Nat}(h:ckPart P t off len=true):off+sizeT P t≤len∧tyOk P t=true:=by
 simpa [ckPart] using h
def ckStore(P:Program)(t:TypeId)(off n len:Nat):Bool:=Nat.beq n (sizeT P t)&&tyOk P t&&Nat.ble (off+n) len
theorem ckStore_spec{P:Program}{t:TypeId}{off n len:Nat}(h:ckStore P t off n len=true):(n=sizeT P t∧tyOk P t=true)∧off+n≤len:=by
 simpa [ckStore] using h
def ckPos(P:Program)(t:TypeId):Bool:=Nat.blt 0 (sizeT P t)
theorem ckPos_spec{P:Program}{t:TypeId}(h:ckPos P t=true):0<sizeT P t:=by simpa [ckPos] using h
def ckElem(P:Program)(t:TypeId)(sz:Nat):Bool:=Nat.beq sz (sizeT P t)&&Nat.blt 0 (sizeT P t)
theorem ckElem_spec{P:Program}{t:TypeId}{sz:Nat}(h:ckElem P t sz=true):sz=sizeT P t∧0<sizeT P t:=by simpa [ckElem] using h
def ckArr(P:Program)(t:TypeId)(n len:Nat):Bool:=Nat.beq len (n*sizeT P t)&&tyOk P t
theorem ckArr_spec{P:Program}{t:TypeId}{n len:Nat}(h:ckArr P t n len=true):len=n*sizeT P t∧tyOk P t=true:=by simpa [ckArr] using h
def ck(b:Bool)(r:Got):Got:=match b with
 | true=>r
 | false=>none
theorem ck_some{b:Bool}{r:Got}{x:SB×List (Option (Option MO))×List Prop}(h:ck b r=some x):b=true∧r=some x:=by
 cases b with
 | true=>exact ⟨rfl,h⟩
 | false=>cases h
def bldZ(z:Value):Bool:=match z.cells.toList with
 | [.pointer none,.slice none 0 0]=>true
 | _=>false
def newO(t:TypeId)(z:Value):MO:=match bldZ z with
 | true=>.tcells t [.junk,.nil]
 | false=>.cells (z.cells.toList.map valC)
def actAlloc(P:Program)(t:TypeId)(d:Option Nat)(ms:List (Option (Option MO))):Got:=
 match d,zeroT P t,ms with
 | some n,some z,[some none]=>if z.cells.all Value.oneCell' then some (.v (.c (.ptr n 0)),[some (some (newO t z))],[]) else none
 | _,_,_=>none
def newCells(x:CV)(cs:List C):MO:=if x.isImm then .cells cs else .pcells cs
def actBox(d:Option Nat)(vs:List SB)(ms:List (Option (Option MO))):Got:=
 match d,vs,ms with
 | some n,[.v x],[some none]=>some (.v (.c (.ptr n 0)),[some (some (newCells x (cvCells x)))],[])
 | _,_,_=>none
def actLoad(P:Program)(t:TypeId)(vs:List SB)(ms:List (Option (Option MO))):Got:=
 match vs with
 | [.v (.c (.ptr _ off))]=>match ms with
  | [some (some (.cells cs))]=>ck (ckPart P t off cs.length) (some (.v (part P false t cs off),ms,[]))
  | [some (some (.pcells cs))]=>ck (ckPart P t off cs.length) (some (.v (part P true t cs off),ms,[]))
  | _=>none
 | [.v (.c (.kptr cs off))]=>ck (ckPart P t off cs.length) (some (.v (part P false t cs off),ms,[]))
 | [.v (.c (.kel sz _ f i off))]=>ck (ckPart P t off sz) (some (.v (part P false t (f i) off),ms,[]))
 | [.v (.c (.rel _ n sz i off))]=>match ms with
  | [some (some (.row _ sz' css))]=>ck (Nat.beq sz sz'&&ckPart P t off sz) (some (.v (part P false t (css.getD i []) off),ms,[n=css.length∧i<n]))
  | _=>none
 | _=>none
def actStore(P:Program)(t:TypeId)(vs:List SB)(ms:List (Option (Option MO))):Got:=
 match vs with
 | [.v (.c (.ptr _ off)),.v x]=>match ms with
  | [some (some (.cells cs))]=>ck (ckStore P t off (cvCells x).length cs.length) (some (.tup [],[some (some (newCells x (splice cs off (cvCells x))))],[]))
  | [some (some (.pcells cs))]=>ck (ckStore P t off (cvCells x).length cs.length) (some (.tup [],[some (some (.pcells (splice cs off (cvCells x))))],[]))
  | _=>none
 | [.v (.c (.rel _ n sz i off)),.v x]=>match ms,x.isImm with
  | [some (some (.row e sz' css))],true=>ck (Nat.beq sz sz'&&ckStore P t off (cvCells x).length sz)
   (some (.tup [],[some (some (.row e sz' (css.set i (splice (css.getD i []) off (cvCells x)))))],[n=css.length∧i<n]))
  | _,_=>none
 | _=>none
theorem part_told{P:Program}{t:TypeId}{cs c0:List C}{off:Nat}(ht:tyOk P t=true)(h:sub cs off (sizeT P t)=c0):part P false t c0 0=part P false t cs off:=by
 subst h
 have h0:0<sizeT P t:=by
  simp only [tyOk,Bool.and_eq_true,Nat.blt_eq] at ht
  exact ht.1.1
 unfold part sub
 cases isAggT P t with
 | true=>simp [List.take_take]
 | false=>simp [gE,h0]
def actLoadH(P:Program)(t:TypeId)(vs:List SB)(ms:List (Option (Option MO)))(h:Hint):Got:=
 match h with
 | .frz 0 f=>match vs,ms with
  | [.v (.c (.rel a n sz i off))],[some (some (.row e sz' css))] =>
   ck (Nat.beq sz sz'&&ckPart P t off sz) (some (.v (part P false t (f 0) off),ms,[(n=css.length∧i<n)∧css.getD i []=f 0]))
  | [.v (.c (.kptr cs off))],_=>ck (tyOk P t) (some (.v (part P false t (f 0) 0),ms,[off+sizeT P t≤cs.length∧sub cs off (sizeT P t)=f 0]))
  | [.v (.c (.kel sz n g i off))],_=>ck (tyOk P t) (some (.v (part P false t (f 0) 0),ms,[off+sizeT P t≤sz∧sub (g i) off (sizeT P t)=f 0]))
  | [.v (.c (.ptr n off))],[some (some (.cells cs))]=>ck (tyOk P t) (some (.v (part P false t (f 0) 0),ms,[off+sizeT P t≤cs.length∧sub cs off (sizeT P t)=f 0]))
  | _,_=>none
 | _=>actLoad P t vs ms
def actStoreH(P:Program)(t:TypeId)(vs:List SB)(ms:List (Option (Option MO)))(h:Hint):Got:=
 match h with
 | .frz 0 f=>match vs,ms with
  | [.v (.c (.rel a n sz i off)),.v x],[some (some (.row e sz' css))]=>match x.isImm with
   | true=>ck (Nat.beq sz sz'&&ckStore P t off (cvCells x).length sz)
    (some (.tup [],[some (some (.row e sz' (css.set i (splice (f 0) off (cvCells x)))))],[(n=css.length∧i<n)∧css.getD i []=f 0]))
   | false=>none
  | [.v (.c (.ptr n off)),.v x],[some (some (.cells cs))]=>match x.isImm with
   | true=>ck (Nat.beq (cvCells x).length (sizeT P t)&&tyOk P t)
    (some (.tup [],[some (some (.cells (f 0)))],[off+(cvCells x).length≤cs.length∧splice cs off (cvCells x)=f 0]))
   | false=>none
  | _,_=>none
 | _=>actStore P t vs ms
theorem actLoadH_some{P:Program}{t:TypeId}{vs:List SB}{ms:List (Option (Option MO))}{h:Hint}{r:SB}{ms':List (Option (Option MO))}{q:List Prop}(hact:actLoadH P t vs ms h=some (r,ms',q))(hq:allP q):
  ∃ q0,actLoad P t vs ms=some (r,ms',q0)∧allP q0:=by
 unfold actLoadH at hact
 split at hact
 ·split at hact
  ·rename_i f _ _ a n sz i off e sz' css
   generalize hck:(Nat.beq sz sz'&&ckPart P t off sz)=b at hact
   cases b with
   | false=>cases hact
   | true =>
    have hact:=Option.some.inj hact
    cases hact
    obtain ⟨h1,h2⟩:=hq
    refine ⟨[n=css.length∧i<n],?_,h1⟩
    unfold actLoad
    simp only [hck,h2]
    rfl
  ·rename_i f _ _ cs off
   obtain ⟨ht,hact⟩:=ck_some hact
   cases hact
   obtain ⟨h1,h2⟩:=hq
   refine ⟨[],?_,trivial⟩
   unfold actLoad
   simp only
   rw [show ckPart P t off cs.length=true by simp [ckPart,ht,h1],part_told ht h2]
   rfl
  ·rename_i f _ _ sz n g i off
   obtain ⟨ht,hact⟩:=ck_some hact
   cases hact
   obtain ⟨h1,h2⟩:=hq
   refine ⟨[],?_,trivial⟩
   unfold actLoad
   simp only
   rw [show ckPart P t off sz=true by simp [ckPart,ht,h1],part_told ht h2]
   rfl
  ·rename_i f _ _ n off cs
   obtain ⟨ht,hact⟩:=ck_some hact
   cases hact
   obtain ⟨h1,h2⟩:=hq
   refine ⟨[],?_,trivial⟩
   unfold actLoad
   simp only
   rw [show ckPart P t off cs.length=true by simp [ckPart,ht,h1],part_told ht h2]
   rfl
  ·cases hact
 ·exact ⟨q,hact,hq⟩
theorem actStoreH_some{P:Program}{t:TypeId}{vs:List SB}{ms:List (Option (Option MO))}{h:Hint}{r:SB}{ms':List (Option (Option MO))}{q:List Prop}(hact:actStoreH P t vs ms h=some (r,ms',q))(hq:allP q):
  ∃ q0,actStore P t vs ms=some (r,ms',q0)∧allP q0:=by
 unfold actStoreH at hact
 split at hact
 ·split at hact
  ·rename_i f _ _ a n sz i off x e sz' css
   split at hact
   ·rename_i him
    generalize hck:(Nat.beq sz sz'&&ckStore P t off (cvCells x).length sz)=b at hact
    cases b with
    | false=>cases hact
    | true =>
     have hact:=Option.some.inj hact
     cases hact
     obtain ⟨h1,h2⟩:=hq
     refine ⟨[n=css.length∧i<n],?_,h1⟩
     unfold actStore
     simp only [him,hck,h2]
     rfl
   ·cases hact
  ·rename_i f _ _ n off x cs
   split at hact
   ·rename_i him
    obtain ⟨ht,hact⟩:=ck_some hact
    cases hact
    obtain ⟨h1,h2⟩:=hq
    refine ⟨[],?_,trivial⟩
    unfold actStore
    simp only
    rw [show ckStore P t off (cvCells x).length cs.length=true by
     simp only [Bool.and_eq_true] at ht
     simp [ckStore,ht.1,ht.2,h1],h2,newCells,if_pos him]
    rfl
   ·cases hact
  ·cases hact
 ·exact ⟨q,hact,hq⟩
def actNilCheck(vs:List SB)(ms:List (Option (Option MO))):Got:=
 match vs with
 | [.v (.c (.ptr n off))]=>some (.v (.c (.ptr n off)),ms,[])
 | [.v (.c (.clo f cs))]=>some (.v (.c (.clo f cs)),ms,[])
 | [.v (.c (.kptr cs off))]=>some (.v (.c (.kptr cs off)),ms,[])
 | [.v (.c (.kel sz n f i off))]=>some (.v (.c (.kel sz n f i off)),ms,[])
 | _=>none
def nilQ:C→Option (Bool×List Prop)
 | .nil=>some (true,[])
 | .lst _ n _=>some (false,[0<n])
 | .lit (.slice (some _) 0 _)=>some (false,[])
 | _=>none
def isShift:BinOp→Bool
 | .shl | .shr=>true
 | _=>false
def actBin(P:Program)(op:BinOp)(t:TypeId)(vs:List SB)(ms:List (Option (Option MO))):Got:=
 match vs with
 | [.v (.c (.int k a)),.v (.c (.int k' b))]=>if kindEq k k'||isShift op then (arith op k a b).map fun r=>(.v (.c r.1),ms,r.2) else none
 | [.v (.c (.bool a)),.v (.c (.bool b))]=>match P.underlying t,op with
  | some .bool,.eql=>some (.v (.c (.bool (a==b))),ms,[])
  | some .bool,.neq=>some (.v (.c (.bool (!(a==b)))),ms,[])
  | _,_=>none
 | [.v (.agg cs),.v (.agg ds)]=>match eqCells cs ds,flatOf cs,op with
  | some b,some fs,.eql=>some (.v (.c (.bool b)),ms,[EqTy P t fs])
  | some b,some fs,.neq=>some (.v (.c (.bool (!b))),ms,[EqTy P t fs])
  | _,_,_=>none
 | [.v (.c (.str a)),.v (.c (.str b))]=>match op with
  | .eql=>some (.v (.c (.bool (a.toList==b.toList))),ms,[])
  | .neq=>some (.v (.c (.bool (!(a.toList==b.toList)))),ms,[])
  | .add=>some (.v (.c (.str (a++b))),ms,[((a.size+b.size:Nat):Int)≤9223372036854775807])
  | _=>none
 | [.v (.c x),.v (.c .nil)]=>match P.underlying t,nilQ x,op with
  | some (.slice _),some (b,q),.eql=>some (.v (.c (.bool b)),ms,q)
  | some (.slice _),some (b,q),.neq=>some (.v (.c (.bool (!b))),ms,q)
  | _,_,_=>none
 | _=>none
def actUn(op:UnOp)(vs:List SB)(ms:List (Option (Option MO))):Got:=
 match op,vs with
 | .not,[.v (.c (.bool b))]=>some (.v (.c (.bool (!b))),ms,[])
 | .neg,[.v (.c (.int k n))]=>some (.v (.c (.int k (k.wrap (0 - n)))),ms,[])
 | _,_=>none
def actConvert(P:Program)(src t:TypeId)(vs:List SB)(ms:List (Option (Option MO))):Got:=
 match vs with
 | [.v (.c (.int _ n))]=>match P.underlying src,P.underlying t with
  | some (.int _),some (.int k)=>some (.v (.c (.int k (k.wrap n))),ms,[])
  | some (.int _),some (.float k)=>some (.v (.c (.lit (.float k (k.nearest n)))),ms,[])
  | _,_=>none
 | _=>none
def actBytes(P:Program)(src t:TypeId)(s:ByteArray)(ms:List (Option (Option MO))):Got:=
 match P.underlying src,P.underlying t with
 | some _,some (.slice e)=>match P.underlying e with
  | some (.int .u8)=>some (.v (.c (.lst 1 s.size fun i=>[.int .u8 (((s[i]?).getD 0).toNat:Int)])),ms,[])
  | _=>none
 | _,_=>none
def actLit(P:Program)(op:BinOp)(t:TypeId)(yc:Bool)(a b:Value)(ms:List (Option (Option MO))):Got:=
 match a,b with
 | .float .f64 x,.float .f64 y=>match op with
  | .mul=>some (.v (.c (.lit (.float .f64 ((FloatKind.f64.format.mul x y).getD 0)))),ms,[(FloatKind.f64.format.mul x y).isSome=true])
  | .lss=>some (.v (.c (.bool (FloatKind.f64.format.order x y==some .lt))),ms,[])
  | .gtr=>some (.v (.c (.bool (FloatKind.f64.format.order x y==some .gt))),ms,[])
  | _=>none
 | .nilIface,.nilIface=>match P.underlying t,yc,op with
  | some (.interface _),true,.eql=>some (.v (.c (.bool true)),ms,[])
  | some (.interface _),true,.neq=>some (.v (.c (.bool false)),ms,[])
  | _,_,_=>none
 | _,_=>none
def isConst:Operand→Bool
 | .const _=>true
 | _=>false
def actFieldAddr(P:Program)(t:TypeId)(fl:Nat)(vs:List SB)(ms:List (Option (Option MO))):Got:=
 match P.underlying t with
 | some (.struct fs)=>match fs[fl]? with
  | some f=>ck (ckPos P f.type) (match vs with
   | [.v (.c (.ptr n off))]=>some (.v (.c (.ptr n (off+f.offset))),ms,[])
   | [.v (.c (.kptr cs off))]=>some (.v (.c (.kptr cs (off+f.offset))),ms,[])
   | [.v (.c (.kel sz n g i off))]=>some (.v (.c (.kel sz n g i (off+f.offset))),ms,[])
   | [.v (.c (.rel r n sz i off))]=>match ms with
    | [some (some (.row _ _ css))]=>some (.v (.c (.rel r n sz i (off+f.offset))),ms,[n=css.length])
    | _=>none
   | _=>none)
  | none=>none
 | _=>none
def actField(P:Program)(t:TypeId)(fl:Nat)(vs:List SB)(ms:List (Option (Option MO))):Got:=
 match P.underlying t with
 | some (.struct fs)=>match fs[fl]? with
  | some f=>match vs with
   | [.v (.agg cs)]=>ck (ckPart P f.type f.offset cs.length) (some (.v (part P false f.type cs f.offset),ms,[]))
   | _=>none
  | none=>none
 | _=>none
def actIndexAddr(P:Program)(t:TypeId)(vs:List SB)(ms:List (Option (Option MO))):Got:=
 match vs with
 | [.v (.c x),.v (.c (.int _ j))]=>match P.underlying t with
  | some (.slice e)=>match x with
   | .lst sz n f=>ck (ckElem P e sz) (some (.v (.c (.kel sz n f j.toNat 0)),ms,[0≤j∧j<(n:Int)]))
   | .row r n=>match ms with
    | [some (some (.row _ sz css))]=>ck (ckElem P e sz) (some (.v (.c (.rel r n (sizeT P e) j.toNat 0)),ms,[(0≤j∧j<(n:Int))∧n=css.length]))
    | _=>none
   | _=>none
  | some (.array n e)=>ck (ckPos P e) (match x with
   | .ptr m off=>some (.v (.c (.ptr m (off+j.toNat*sizeT P e))),ms,[0≤j∧j<(n:Int)])
   | .kptr cs off=>some (.v (.c (.kptr cs (off+j.toNat*sizeT P e))),ms,[0≤j∧j<(n:Int)])
   | .kel sz m f i off=>some (.v (.c (.kel sz m f i (off+j.toNat*sizeT P e))),ms,[0≤j∧j<(n:Int)])
   | .rel r m sz i off=>(match ms with
    | [some (some (.row _ _ css))]=>some (.v (.c (.rel r m sz i (off+j.toNat*sizeT P e))),ms,[(0≤j∧j<(n:Int))∧m=css.length])
    | _=>none)
   | _=>none)
  | _=>none
 | _=>none
def byteAt(s:ByteArray)(i:Nat):Int:=(((s[i]?).getD 0).toNat:Int)
def actIndex(P:Program)(t:TypeId)(vs:List SB)(ms:List (Option (Option MO))):Got:=
 match vs with
 | [.v (.agg cs),.v (.c (.int _ j))]=>match P.underlying t with
  | some (.array n e)=>ck (ckArr P e n cs.length) (some (.v (part P false e cs (j.toNat*sizeT P e)),ms,[0≤j∧j<(n:Int)]))
  | _=>none
 | [.v (.c (.str s)),.v (.c (.int _ j))]=>match P.underlying t with
  | some .string=>some (.v (.c (.int .u8 (byteAt s j.toNat))),ms,[0≤j∧j<(s.size:Int)])
  | _=>none
 | _=>none
def actIndexH(P:Program)(t:TypeId)(vs:List SB)(ms:List (Option (Option MO)))(h:Hint):Got:=
 match h with
 | .frz 0 f=>match vs with
  | [.v (.agg cs),.v (.c (.int _ j))]=>match P.underlying t with
   | some (.array n e)=>ck (ckArr P e n cs.length) (some (.v (part P false e (f 0) 0),ms,[(0≤j∧j<(n:Int))∧sub cs (j.toNat*sizeT P e) (sizeT P e)=f 0]))
   | _=>none
  | _=>none
 | _=>actIndex P t vs ms
theorem actIndexH_some{P:Program}{t:TypeId}{vs:List SB}{ms:List (Option (Option MO))}{h:Hint}{r:SB}{ms':List (Option (Option MO))}{q:List Prop}(hact:actIndexH P t vs ms h=some (r,ms',q))(hq:allP q):
  ∃ q0,actIndex P t vs ms=some (r,ms',q0)∧allP q0:=by
 unfold actIndexH at hact
 split at hact
 ·split at hact
  ·split at hact
   ·rename_i hu
    obtain ⟨hck,hact⟩:=ck_some hact
    cases hact
    obtain ⟨h1,h2⟩:=hq
    rename_i j _ n _ _ _
    refine ⟨[_],?_,h1⟩
    unfold actIndex
    simp only [hu,hck]
    rw [part_told (ckArr_spec hck).2 h2]
    rfl
   ·cases hact
  ·cases hact
 ·exact ⟨q,hact,hq⟩
def actExtract(i:Nat)(vs:List SB)(ms:List (Option (Option MO))):Got:=
 match vs with
 | [.tup xs]=>match xs[i]? with
  | some x=>some (.v x,ms,[])
  | none=>none
 | _=>none
def haveInfo(P:Program)(fs:Array Field):Bool:=fs.all fun f=>(P.info? f.type).isSome
def actBuild(P:Program)(t:TypeId)(ps:List (Nat×Operand))(vs:List SB)(ms:List (Option (Option MO))):Got:=
 match zipParts ps vs,zeroT P t with
 | some parts,some z=>if z.cells.all Value.oneCell' then
  match P.underlying t with
  | some (.struct fs)=>if haveInfo P fs then
   match fillC (fun i=>(fs[i]?).map fun f=>(f.offset,sizeT P f.type)) (z.cells.toList.map valC) parts with
   | some cs=>some (.v (if allImmC parts then .agg cs else .pagg cs),ms,[])
   | none=>none
   else none
  | some (.array _ e)=>if Nat.blt 0 (sizeT P e) then
   match fillC (fun i=>some (i*sizeT P e,sizeT P e)) (z.cells.toList.map valC) parts with
   | some cs=>some (.v (if allImmC parts then .agg cs else .pagg cs),ms,[])
   | none=>none
   else none
  | _=>none
  else none
 | _,_=>none
def actLen(P:Program)(t:TypeId)(vs:List SB)(ms:List (Option (Option MO))):Got:=
 match vs with
 | [.v (.c x)]=>match P.underlying t,x with
  | some (.slice _),.lst _ n _=>some (.v (.c (.int .i64 n)),ms,[])
  | some (.slice _),.nil=>some (.v (.c (.int .i64 0)),ms,[])
  | some (.slice _),.row _ n=>match ms with
   | [some (some (.row _ _ css))]=>some (.v (.c (.int .i64 n)),ms,[n=css.length])
   | _=>none
  | some .string,.str s=>some (.v (.c (.int .i64 s.size)),ms,[])
  | some (.map _ _),.kmap _ _ ents=>some (.v (.c (.int .i64 ents.length)),ms,[])
  | some (.map _ _),.omap _=>match ms with
   | [some (some (.omap _ _ ents))]=>some (.v (.c (.int .i64 ents.length)),ms,[])
   | _=>none
  | _,_=>none
 | _=>none
def actMinMax(mx:Bool)(vs:List SB)(ms:List (Option (Option MO))):Got:=
 match vs with
 | [.v (.c (.int k a)),.v (.c (.int k' b))]=>if kindEq k k' then some (.v (.c (.int k (match mx with | true=>if b>a then b else a | false=>if b<a then b else a))),ms,[]) else none
 | _=>none
def actMinMax3(mx:Bool)(vs:List SB)(ms:List (Option (Option MO))):Got:=
 match vs with
 | [.v (.c (.int k a)),.v (.c (.int k' b)),.v (.c (.int k'' c))]=>if kindEq k k'&&kindEq k k'' then
   some (.v (.c (.int k (match mx with | true=>if c>(if b>a then b else a) then c else (if b>a then b else a) | false=>if c<(if b<a then b else a) then c else (if b<a then b else a)))),ms,[]) else none
 | _=>none
def actMM(mx:Bool)(vs:List SB)(ms:List (Option (Option MO))):Got:=
 match vs with
 | [_,_,_]=>actMinMax3 mx vs ms
 | _=>actMinMax mx vs ms
def actCallee(P:Program)(vs:List SB)(ms:List (Option (Option MO)))(h:Hint):Got:=
 match vs with
 | .v (.c (.clo f caps)) :: args=>match h,allV args with
  | .call r,some xs=>if allImm xs then some (r,ms,[FCall P f (xs++caps.map .c) r]) else none
  | _,_=>none
 | .v (.c (.meth f fs)) :: args=>match h,allV args with
  | .call r,some xs=>if allImm xs then some (r,ms,[FCall P f (fs.map .c++xs) r]) else none
  | _,_=>none
 | .v (.c (.lit _)) :: _=>match h with
  | .call r=>some (r,ms,[False])
  | _=>none
 | _=>none
def ckRow(P:Program)(e:TypeId)(z:Value):Bool:=Nat.beq z.cells.size (sizeT P e)&&Nat.blt 0 (sizeT P e)&&z.cells.all Value.oneCell'
theorem ckRow_spec{P:Program}{e:TypeId}{z:Value}(h:ckRow P e z=true):z.cells.size=sizeT P e∧0<sizeT P e∧z.cells.all Value.oneCell'=true:=by
 simp only [ckRow,Bool.and_eq_true,Nat.blt_eq] at h
 exact ⟨Nat.eq_of_beq_eq_true h.1.1,h.1.2,h.2⟩
def chunks(sz len:Nat)(cs:List C):List (List C):=(List.range len).map fun i=>sub cs (i*sz) sz
def actBuildSlice(P:Program)(t:TypeId)(len:Nat)(ps:List (Nat×Operand))(d:Option Nat)(vs:List SB)(ms:List (Option (Option MO)))(h:Hint):Got:=
 match P.underlying t with
 | some (.slice e)=>match zipParts ps vs,zeroT P e with
  | some parts,some z=>ck (ckRow P e z&&Nat.ble (len*sizeT P e) 16777216&&allImmC parts)
   (match fillC (fun i=>some (i*sizeT P e,sizeT P e)) (List.replicate len (z.cells.toList.map valC)).flatten parts with
   | some cs=>match h with
    | .no=>match d,ms with
     | some n,[some none]=>some (.v (.c (.row n len)),[some (some (.row e (sizeT P e) (chunks (sizeT P e) len cs)))],[])
     | _,_=>none
    | .frz n f=>some (.v (.c (.lst (sizeT P e) n f)),ms,[n=len∧∀ i,i<n→f i=(chunks (sizeT P e) len cs).getD i []])
    | _=>none
   | none=>none)
  | _,_=>none
 | _=>none
def actMakeSlice(P:Program)(t:TypeId)(d:Option Nat)(vs:List SB)(ms:List (Option (Option MO))):Got:=
 match P.underlying t with
 | some (.slice e)=>match zeroT P e,vs with
  | some z,[.v (.c (.int .i64 l)),.v (.c (.int .i64 c))]=>ck (ckRow P e z)
   (match d,ms with
   | some n,[some none]=>some (.v (.c (.row n l.toNat)),[some (some (.row e (sizeT P e) (List.replicate l.toNat (z.cells.toList.map valC))))],[0≤l∧l≤c∧c*((bytesT P e:Int)+1)≤140737488355328])
   | _,_=>none)
  | _,_=>none
 | _=>none
def actMakeFrz(P:Program)(t:TypeId)(vs:List SB)(ms:List (Option (Option MO)))(n:Nat)(f:Nat→List C):Got:=
 match P.underlying t with
 | some (.slice e)=>match zeroT P e,vs with
  | some z,[.v (.c (.int .i64 l)),.v (.c (.int .i64 c))]=>ck (ckRow P e z)
   (some (.v (.c (.lst (sizeT P e) n f)),ms,[(0≤l∧l=c∧c*((bytesT P e:Int)+1)≤140737488355328)∧n=l.toNat∧∀ i,i<n→f i=(chunks (sizeT P e) n (List.replicate n (z.cells.toList.map valC)).flatten).getD i []]))
  | _,_=>none
 | _=>none
def actMakeSliceH(P:Program)(t:TypeId)(d:Option Nat)(vs:List SB)(ms:List (Option (Option MO)))(h:Hint):Got:=
 match h with
 | .frz n f=>actMakeFrz P t vs ms n f
 | _=>actMakeSlice P t d vs ms
def newsOf(r e sz:Nat)(x:C)(ms:List (Option (Option MO))):Option (Nat×List (List C)×List Prop):=
 match x,ms with
 | .lst sz' k f,[]=>match Nat.beq sz sz' with
  | true=>some (k,(List.range k).map f,[])
  | false=>none
 | .nil,[]=>some (0,[],[])
 | .lit (.slice (some _) 0 _),[]=>some (0,[],[])
 | .row q k,[some (some (.row e' sz' css))]=>match Nat.beq sz sz'&&Nat.beq e e'&&!(Nat.beq r q) with
  | true=>some (k,css,[k=css.length])
  | false=>none
 | _,_=>none
def actAppend(P:Program)(ts:List TypeId)(vs:List SB)(ms:List (Option (Option MO)))(h:Hint):Got:=
 match ts with
 | [t,t']=>match P.underlying t with
  | some (.slice e)=>match zeroT P e with
   | some z=>ck (Nat.beq t t'&&ckRow P e z) (match vs,ms with
    | [.v (.c (.row r n)),.v (.c x)],some (some (.row e' sz css)) :: rest=>ck (Nat.beq e e'&&Nat.beq sz (sizeT P e))
     (match newsOf r e sz x rest with
     | some (k,news,q)=>match h with
      | .no=>some (.v (.c (.row r (n+k))),some (some (.row e' sz (css++news))) :: rest,(n=css.length) :: ((n+k)*(bytesT P e+1)≤140737488355328) :: q)
      | .frzA n' f=>some (.v (.c (.lst sz n' f)),some (some .gone) :: rest,(n=css.length) :: ((n+k)*(bytesT P e+1)≤140737488355328) :: (n'=n+k∧∀ i,i<n'→f i=(css++news).getD i []) :: q)
      | _=>none
     | none=>none)
    | _,_=>none)
   | none=>none
  | _=>none
 | _=>none
def intKeys(k:IntKind):List (List C×List C)→Option (List Int)
 | []=>some []
 | ([.int k' a],_) :: r=>if kindEq k k' then (intKeys k r).map (a :: ·) else none
 | _=>none
def isIntT(P:Program)(t:TypeId)(k:IntKind):Bool:=
 match P.underlying t with
 | some (.int d)=>kindEq d k
 | _=>false
def actMakeMap(P:Program)(t:TypeId)(d:Option Nat)(ms:List (Option (Option MO))):Got:=
 match P.underlying t with
 | some (.map k e)=>match d,ms with
  | some n,[some none]=>some (.v (.c (.omap n)),[some (some (.omap (isAggT P k) (isAggT P e) []))],[])
  | _,_=>none
 | _=>none
def cvAgg:CV→Bool
 | .c _=>false
 | _=>true
def actInsert(P:Program)(t:TypeId)(vs:List SB)(ms:List (Option (Option MO))):Got:=
 match P.underlying t with
 | some (.map kt _)=>(match vs,ms with
  | [.v (.c (.omap _)),.v (.c (.int k a)),.v x],[some (some (.omap false agg ents))]=>match intKeys k ents with
   | some ks=>ck (isIntT P kt k&&x.isImm&&(match agg,cvAgg x with | true,true=>true | false,false=>true | _,_=>false))
    (some (.tup [],[some (some (.omap false agg (ents++[([.int k a],cvCells x)])))],[ks.all (fun b=>!(a==b))=true]))
   | none=>none
  | _,_=>none)
 | _=>none
def entCV(agg:Bool)(cs:List C):CV:=
 match agg with
 | true=>.agg cs
 | false=>.c (cs.getD 0 .junk)
def lookRes(commaOk:Bool)(x:CV)(b:Bool):SB:=
 match commaOk with
 | true=>.tup [x,.c (.bool b)]
 | false=>.v x
def mkV(kagg:Bool)(us:List Value):Value:=
 match kagg with
 | true=>.agg us.toArray
 | false=>us.headD undef
def keyIs(kagg:Bool)(fs:List Flat)(e:MapEntry):Prop:=
 oneOr kagg e.key∧e.key.cells.size=fs.length∧∀ (j:Nat) (f:Flat) (u:Value),fs[j]?=some f→e.key.cells.toList[j]?=some u→Flat.val f u
def KeyTy(P:Program)(kt:TypeId)(kagg:Bool)(fs:List Flat):Prop:=
 ∀ (w:World) (us:List Value),us.length=fs.length→(∀ (j:Nat) (f:Flat) (u:Value),fs[j]?=some f→us[j]?=some u→Flat.val f u) →
  (∀ em,(Instr.checkKey em 10000 kt (mkV kagg us)).run P w=.ok () w) ∧
  (∀ es:List MapEntry,(∀ (j:Nat) (e:MapEntry),es[j]?=some e→keyIs kagg fs e∧eqVals us e.key.cells.toList=false)→(Instr.findKey kt (mkV kagg us) es).run P w=.ok none w) ∧
  (∀ (es:List MapEntry) (i:Nat) (e:MapEntry),es[i]?=some e→(∀ (j:Nat) (e':MapEntry),j<i→es[j]?=some e'→keyIs kagg fs e'∧eqVals us e'.key.cells.toList=false)→keyIs kagg fs e→eqVals us e.key.cells.toList=true →
   (Instr.findKey kt (mkV kagg us) es).run P w=.ok (some (i,e.val)) w)
def KeyNo(ents:List (List C×List C))(kc:List C):Prop:=∀ j,j<ents.length→eqCells kc (ents.getD j ([],[])).1=some false
structure KeyAt (ents:List (List C×List C)) (kc:List C) (i:Nat):Prop where
 lt:i<ents.length
 no:∀ j,j<i→eqCells kc (ents.getD j ([],[])).1=some false
 at':(ents.getD i ([],[])).1=kc
def aggEq:Bool→Bool→Bool
 | true,true=>true
 | false,false=>true
 | _,_=>false
def keyOfSB(kagg:Bool):SB→Option (List C)
 | .v x=>if x.isImm&&aggEq kagg (cvAgg x) then some (cvCells x) else none
 | _=>none
def zeroOk(agg:Bool)(z:Value):Bool:=
 match agg with
 | true=>(match z with | .agg _=>true | _=>false)
 | false=>Value.oneCell' z
def zeroEl(P:Program)(et:TypeId)(agg:Bool):Option (CV×List C):=
 match zeroT P et with
 | some z=>if z.cells.all Value.oneCell'&&zeroOk agg z then some (match agg with | true=>.agg (z.cells.toList.map valC) | false=>.c (valC z),z.cells.toList.map valC) else none
 | none=>none
def actLookK(P:Program)(kt et:TypeId)(commaOk kagg agg:Bool)(ents:List (List C×List C))(key:SB)(ms:List (Option (Option MO)))(o:Option Nat)(cs:List C):Got:=
 match keyOfSB kagg key with
 | some kc=>match flatOf kc with
  | some fs=>match o with
   | some i=>ck (match agg with | true=>true | false=>Nat.beq cs.length 1) (some (lookRes commaOk (entCV agg cs) true,ms,[KeyTy P kt kagg fs,KeyAt ents kc i,(ents.getD i ([],[])).2=cs]))
   | none=>match zeroEl P et agg with
    | some (z,zc)=>match cs with
     | []=>some (lookRes commaOk z false,ms,[KeyTy P kt kagg fs,KeyNo ents kc])
     | _ :: _=>match commaOk with
      | false=>some (.v z,ms,[KeyTy P kt kagg fs,KeyNo ents kc∨∃ i,KeyAt ents kc i∧(ents.getD i ([],[])).2=zc])
      | true=>none
    | none=>none
  | none=>none
 | none=>none
def Look(ents:List (List C×List C))(kc zc:List C)(b:Bool)(cs:List C):Prop:=
 (b=true∧∃ i,KeyAt ents kc i∧(ents.getD i ([],[])).2=cs)∨(b=false∧KeyNo ents kc∧cs=zc)
def actLookA(P:Program)(kt et:TypeId)(commaOk kagg agg:Bool)(ents:List (List C×List C))(key:SB)(ms:List (Option (Option MO)))(b:Bool)(cs:List C):Got:=
 match keyOfSB kagg key with
 | some kc=>match flatOf kc with
  | some fs=>match zeroEl P et agg with
   | some (_,zc)=>ck (match agg with | true=>true | false=>Nat.beq cs.length 1) (some (lookRes commaOk (entCV agg cs) b,ms,[KeyTy P kt kagg fs,Look ents kc zc b cs]))
   | none=>none
  | none=>none
 | none=>none
def actLookup(P:Program)(t:TypeId)(commaOk:Bool)(vs:List SB)(ms:List (Option (Option MO)))(h:Hint):Got:=
 match P.underlying t with
 | some (.map kt et)=>(match vs,h with
  | [.v (.c (.omap _)),key],.key o cs=>(match ms with
   | [some (some (.omap kagg agg ents))]=>actLookK P kt et commaOk kagg agg ents key ms o cs
   | _=>none)
  | [.v (.c (.kmap kagg agg ents)),key],.key o cs=>actLookK P kt et commaOk kagg agg ents key ms o cs
  | [.v (.c (.omap _)),key],.look b cs=>(match ms with
   | [some (some (.omap kagg agg ents))]=>actLookA P kt et commaOk kagg agg ents key ms b cs
   | _=>none)
  | [.v (.c (.kmap kagg agg ents)),key],.look b cs=>actLookA P kt et commaOk kagg agg ents key ms b cs
  | [.v (.c (.kmap false agg ents)),.v (.c (.int k a))],.at (some i)=>ck (isIntT P kt k) (match intKeys k ents with
   | some ks=>match ents[i]? with
    | some en=>ck (match agg with | true=>true | false=>Nat.beq en.2.length 1) (some (lookRes commaOk (entCV agg en.2) true,ms,[(ks.take i).all (fun b=>!(a==b))=true,ks[i]?=some a]))
    | none=>none
   | none=>none)
  | [.v (.c (.kmap false agg ents)),.v (.c (.int k a))],.at none=>ck (isIntT P kt k) (match intKeys k ents with
   | some ks=>match zeroT P et with
    | some z=>ck (z.cells.all Value.oneCell'&&(match isAggT P et with | true=>(match z with | .agg _=>true | _=>false) | false=>Value.oneCell' z))
     (some (lookRes commaOk (match isAggT P et with | true=>.agg (z.cells.toList.map valC) | false=>.c (valC z)) false,ms,[ks.all (fun b=>!(a==b))=true]))
    | none=>none
   | none=>none)
  | _,_=>none)
 | _=>none
def actEntry(P:Program)(t:TypeId)(vs:List SB)(ms:List (Option (Option MO)))(h:Hint):Got:=
 match P.underlying t with
 | some (.map kt et)=>(match vs,ms,h with
  | [.v (.c (.omap _)),key],[some (some (.omap kagg agg ents))],.key o cs=>(match keyOfSB kagg key with
   | some kc=>match flatOf kc with
    | some fs=>match o with
     | some i=>ck (match agg with | true=>true | false=>Nat.beq cs.length 1) (some (.tup [entCV agg cs,.c (.int .i64 i)],[some (some (.omap kagg agg ents))],[KeyTy P kt kagg fs,KeyAt ents kc i,(ents.getD i ([],[])).2=cs]))
     | none=>match zeroEl P et agg with
      | some (z,zc)=>some (.tup [z,.c (.int .i64 ents.length)],[some (some (.omap kagg agg (ents++[(kc,zc)])))],[KeyTy P kt kagg fs,KeyNo ents kc])
      | none=>none
    | none=>none
   | none=>none)
  | _,_,_=>none)
 | _=>none
def setEnt(ents:List (List C×List C))(i:Nat)(cs:List C):List (List C×List C):=ents.set i ((ents.getD i ([],[])).1,cs)
def Put(ents:List (List C×List C))(kc vc:List C)(ents':List (List C×List C)):Prop:=
 (KeyNo ents kc∧ents'=ents++[(kc,vc)])∨∃ i,KeyAt ents kc i∧ents'=setEnt ents i vc
def actPut(P:Program)(t:TypeId)(vs:List SB)(ms:List (Option (Option MO)))(h:Hint):Got:=
 match P.underlying t with
 | some (.map kt _)=>(match vs,ms,h with
  | [.v (.c (.omap _)),key,.v x],[some (some (.omap kagg agg ents))],.put ents'=>(match keyOfSB kagg key with
   | some kc=>match flatOf kc with
    | some fs=>ck (x.isImm&&aggEq agg (cvAgg x)) (some (.tup [],[some (some (.omap kagg agg ents'))],[KeyTy P kt kagg fs,Put ents kc (cvCells x) ents']))
    | none=>none
   | none=>none)
  | _,_,_=>none)
 | _=>none
def actInsertH(P:Program)(t:TypeId)(vs:List SB)(ms:List (Option (Option MO)))(h:Hint):Got:=
 match h with
 | .put _=>actPut P t vs ms h
 | _=>actInsert P t vs ms
def actEntryStore(vs:List SB)(ms:List (Option (Option MO))):Got:=
 match vs,ms with
 | [.v (.c (.omap _)),.v (.c (.int _ i)),.v x],[some (some (.omap kagg agg ents))] =>
  ck (x.isImm&&(match agg,cvAgg x with | true,true=>true | false,false=>true | _,_=>false)) (some (.tup [],[some (some (.omap kagg agg (setEnt ents i.toNat (cvCells x))))],[0≤i∧i<(ents.length:Int)]))
 | _,_=>none
def allC:List SB→Option (List C)
 | []=>some []
 | .v (.c x) :: xs=>match x.isImm with
  | true=>(allC xs).map (x :: ·)
  | false=>none
 | _=>none
def allPtr:List SB→Option (List (Nat×Nat))
 | []=>some []
 | .v (.c (.ptr n off)) :: xs=>(allPtr xs).map ((n,off) :: ·)
 | _=>none
def actSlice(P:Program)(t:TypeId)(lo hi mx:Option Operand)(vs:List SB)(ms:List (Option (Option MO))):Got:=
 match P.underlying t,mx,vs with
 | some (.slice e),none,.v (.c (.lst sz n f)) :: rest=>ck (ckElem P e sz) (match lo,hi,rest with
  | none,none,[]=>some (.v (.c (.lst sz n f)),ms,[])
  | none,some _,[.v (.c (.int _ h))]=>some (.v (.c (.lst sz h.toNat f)),ms,[0≤h∧h≤(n:Int)])
  | some _,none,[.v (.c (.int _ l))]=>some (.v (.c (.lst sz (n - l.toNat) fun i=>f (l.toNat+i))),ms,[0≤l∧l≤(n:Int)])
  | some _,some _,[.v (.c (.int _ l)),.v (.c (.int _ h))]=>some (.v (.c (.lst sz (h.toNat - l.toNat) fun i=>f (l.toNat+i))),ms,[0≤l∧l≤h∧h≤(n:Int)])
  | _,_,_=>none)
 | _,_,_=>none
def actSliceStr(P:Program)(t:TypeId)(lo hi mx:Option Operand)(s:ByteArray)(rest:List SB)(ms:List (Option (Option MO))):Got:=
 match P.underlying t,mx with
 | some .string,none=>(match lo,hi,rest with
  | none,none,[]=>some (.v (.c (.str s)),ms,[])
  | none,some _,[.v (.c (.int _ h))]=>some (.v (.c (.str (s.extract 0 h.toNat))),ms,[0≤h∧h≤(s.size:Int)])
  | some _,none,[.v (.c (.int _ l))]=>some (.v (.c (.str (s.extract l.toNat s.size))),ms,[0≤l∧l≤(s.size:Int)])
  | some _,some _,[.v (.c (.int _ l)),.v (.c (.int _ h))]=>some (.v (.c (.str (s.extract l.toNat h.toNat))),ms,[0≤l∧l≤h∧h≤(s.size:Int)])
  | _,_,_=>none)
 | _,_=>none
def actSliceArr(P:Program)(t:TypeId)(lo hi mx:Option Operand)(vs:List SB)(ms:List (Option (Option MO))):Got:=
 match vs with
 | [.v (.c (.kptr cs off))]=>match P.underlying t,lo,hi,mx with
  | some (.array n e),none,none,none=>ck (Nat.blt 0 (sizeT P e)&&Nat.blt 0 n&&Nat.ble (off+n*sizeT P e) cs.length&&Nat.ble n 9223372036854775807) (some (.v (.c (.lst (sizeT P e) n fun i=>sub cs (off+i*sizeT P e) (sizeT P e))),ms,[]))
  | _,_,_,_=>none
 | .v (.c (.str s)) :: rest=>actSliceStr P t lo hi mx s rest ms
 | [.v (.c (.kel sz m f i off))]=>match P.underlying t,lo,hi,mx with
  | some (.array n e),none,none,none=>ck (Nat.blt 0 (sizeT P e)&&Nat.blt 0 n&&Nat.ble (off+n*sizeT P e) sz&&Nat.ble n 9223372036854775807) (some (.v (.c (.lst (sizeT P e) n fun k=>sub (f i) (off+k*sizeT P e) (sizeT P e))),ms,[]))
  | _,_,_,_=>none
 | _=>actSlice P t lo hi mx vs ms
def actBoxImm(vs:List SB)(ms:List (Option (Option MO))):Got:=
 match vs with
 | [.v x]=>ck x.isImm (some (.v (.c (.kptr (cvCells x) 0)),ms,[]))
 | _=>none
def act(P:Program)(op:Op)(d:Option Nat)(vs:List SB)(ms:List (Option (Option MO)))(h:Hint):Got:=
 match op with
 | .move _ | .assign _=>match vs with
  | [x]=>some (x,ms,[])
  | _=>none
 | .alloc t=>actAlloc P t d ms
 | .box _ _=>match h with
  | .imm=>actBoxImm vs ms
  | _=>actBox d vs ms
 | .load t _=>actLoadH P t vs ms h
 | .store t _ _=>actStoreH P t vs ms h
 | .nilCheck _=>actNilCheck vs ms
 | .binOp op t _ y _=>match vs with
  | [.v (.c (.lit a)),.v (.c (.lit b))]=>actLit P op t (isConst y) a b ms
  | _=>actBin P op t vs ms
 | .unOp op _ _=>actUn op vs ms
 | .convert s t _=>match vs with
  | [.v (.c (.str x))]=>actBytes P s t x ms
  | _=>actConvert P s t vs ms
 | .fieldAddr t _ fl=>actFieldAddr P t fl vs ms
 | .field t _ fl=>actField P t fl vs ms
 | .indexAddr t _ _=>actIndexAddr P t vs ms
 | .index t _ _=>actIndexH P t vs ms h
 | .extract _ i=>actExtract i vs ms
 | .build t ps=>actBuild P t ps.toList vs ms
 | .buildSlice t len ps=>actBuildSlice P t len ps.toList d vs ms h
 | .makeSlice t _ _=>actMakeSliceH P t d vs ms h
 | .makeMap t r=>match r with
  | none=>actMakeMap P t d ms
  | some _=>none
 | .insert t _ _ _=>actInsertH P t vs ms h
 | .mapUpdate t _ _ _=>actPut P t vs ms h
 | .mapEntry t _ _=>actEntry P t vs ms h
 | .entryStore _ _ _ _=>actEntryStore vs ms
 | .slice t _ lo hi mx=>actSliceArr P t lo hi mx vs ms
 | .lookup t _ _ ok=>actLookup P t ok vs ms h
 | .makeFunc (.func f) first cap=>if first.size=0 then (match allC vs with
   | some cs=>some (.v (.c (.clo f cs)),ms,[])
   | none=>match allPtr vs with
    | some ps=>some (.v (.c (.oclo false f ps)),ms,[])
    | none=>none) else if cap.size=0 then (match allC vs with
   | some cs=>some (.v (.c (.meth f cs)),ms,[])
   | none=>match allPtr vs with
    | some ps=>some (.v (.c (.oclo true f ps)),ms,[])
    | none=>none) else none
 | .call c=>match c.callee with
  | .value _=>actCallee P vs ms h
  | .builtin .len=>match c.argTypes.toList with
   | [t]=>actLen P t vs ms
   | _=>none
  | .builtin .max=>actMM true vs ms
  | .builtin .min=>actMM false vs ms
  | .builtin .append=>actAppend P c.argTypes.toList vs ms h
  | _=>none
 | _=>none
def guardPath(ops:Array Oper)(s:S)(o:Oper):Option Path:=
 match o.guard with
 | none=>some []
 | some (j,w)=>match (ops[j]?).bind (·.dst),s.g[j]? with
  | some d,some (some _)=>match s.t[d]? with
   | some (.b (.v (.c (.bool _))))=>some [(j,w)]
   | some (.may p (.v (.c (.bool _))))=>some ((j,w) :: p)
   | _=>none
  | _,_=>none
def findDst(ops:Array Oper)(t:Nat):Option Nat:=
 (List.range ops.size).find? fun j=>match (ops[j]?).bind (·.dst) with
  | some d=>Nat.beq d t
  | none=>false
def outcome:SB→Option Bool
 | .v (.c (.bool b))=>some b
 | _=>none
def outcomeAt(d:Option Nat)(v:SB):Option Bool:=
 match d with
 | some _=>outcome v
 | none=>none
def getM(m:List (Option MO))(n:Nat):Option (Option MO):=m[n]?
def putM(m:List (Option MO)):List Nat→List (Option (Option MO))→List (Option MO)
 | n :: ns,some o :: os=>putM (m.set n o) ns os
 | _,_=>m
def evAll(s:S)(p:Path):List Operand→Option (List SB)
 | []=>some []
 | x :: xs=>match s.ev p x,evAll s p xs with
  | some v,some vs=>some (v :: vs)
  | _,_=>none
def armOf(s:S)(p:Path)(q:Path):Operand→Option SB
 | .tmp t=>match s.t[t]? with
  | some (.b x)=>some x
  | some (.pin _ x)=>some x
  | some (.may r x)=>if sfx r p||eqPath r q then some x else none
  | _=>none
 | x=>s.ev p x
def pickArms(s:S)(p:Path)(a b:Operand)(x:Bool)(j:Nat)(q:Path):Option SB:=
 match a,b with
 | .const (.bool true),y=>match armOf s p ((j,false) :: q) y with
  | some (.v (.c (.bool z)))=>some (.v (.c (.bool (x||z))))
  | _=>none
 | y,.const (.bool false)=>match armOf s p ((j,true) :: q) y with
  | some (.v (.c (.bool z)))=>some (.v (.c (.bool (x&&z))))
  | _=>none
 | _,_=>none
def pickVal(ops:Array Oper)(s:S)(p:Path)(c a b:Operand):Option SB:=
 match c with
 | .tmp tc=>match findDst ops tc with
  | some j=>match s.g[j]?,s.t[tc]? with
   | some (some x),some (.b (.v (.c (.bool _))))=>pickArms s p a b x j []
   | some (some x),some (.may q (.v (.c (.bool _))))=>if sfx q p then pickArms s p a b x j q else none
   | _,_=>none
  | none=>none
 | _=>none
def isPick:Op→Bool
 | .pick ..=>true
 | _=>false
inductive Plan where
 | pick (p:Path) (v:SB)
 | op (p:Path) (vs:List SB)
def Plan.path:Plan→Path
 | .pick p _=>p
 | .op p _=>p
def planOf(ops:Array Oper)(o:Oper)(s:S):Option Plan:=
 match guardPath ops s o with
 | none=>none
 | some p=>match o.op with
  | .pick c a b=>match pickVal ops s p c a b with
   | some v=>some (.pick p v)
   | none=>none
  | op=>match evAll s p op.operands.toList with
   | some vs=>some (.op p vs)
   | none=>none
def Plan.names(o:Oper):Plan→List Nat
 | .pick _ _=>[]
 | .op _ vs=>Op.names o.op o.dst vs
def Plan.run(P:Program)(o:Oper)(pl:Plan)(m:List (Option MO))(h:Hint):Got:=
 match pl with
 | .pick _ v=>some (v,[],[])
 | .op _ vs=>act P o.op o.dst vs ((Op.names o.op o.dst vs).map (getM m)) h
def slotOf(p:Path)(v:SB):SV:=
 match p with
 | []=>.b v
 | _=>.may p v
def setSlot(t:List SV)(d:Option Nat)(x:SV):List SV:=
 match d with
 | some d=>t.set d x
 | none=>t
structure Ask where
 g:Bool
 p:Prop
def allA:List Ask→Prop
 | []=>True
 | x :: l=>(x.g=true→x.p)∧allA l
theorem allA_append{l l':List Ask}:allA (l++l')↔allA l∧allA l':=by
 induction l with
 | nil=>simp [allA]
 | cons x l ih=>rw [List.cons_append];simp only [allA,ih,and_assoc]
def askOf(g:List (Option Bool))(p:Path)(q:List Prop):List Ask:=q.map fun x=>⟨holds g p,x⟩
theorem allA_askOf{g:List (Option Bool)}{p:Path}{q:List Prop}(h:allA (askOf g p q))(hh:holds g p=true):allP q:=by
 induction q with
 | nil=>trivial
 | cons x q ih=>exact allP_cons.2 ⟨h.1 hh,ih h.2⟩
def guarded(p:Path):Bool:=
 match p with
 | []=>false
 | _=>true
def stepOp(P:Program)(ops:Array Oper)(i:Nat)(h:Hint)(s:S):Option (S×List Ask×List Nat):=
 match ops[i]? with
 | none=>none
 | some o=>match planOf ops o s with
  | none=>none
  | some pl=>if Op.wr o.op h&&guarded pl.path&&!holds s.g pl.path then none else
   match pl.run P o s.m h with
   | none=>none
   | some (v,ms,q)=>some ({ t:=setSlot s.t o.dst (slotOf pl.path v),m:=(if Op.wr o.op h then putM s.m (pl.names o) ms else s.m),g:=s.g.set i (outcomeAt o.dst v) },askOf s.g pl.path q,pl.names o)
def hintAt(hs:List (Nat×Hint))(i:Nat):Hint:=
 match hs with
 | []=>.no
 | (j,h) :: r=>if Nat.beq j i then h else hintAt r i
def elderAny(hs:List (Nat×Hint)):Bool:=hs.any fun p=>p.2.elder
def evalOps(P:Program)(ops:Array Oper)(hs:List (Nat×Hint)):List Nat→S→Option (S×List Ask×List (Nat×List Nat))
 | [],s=>some (s,[],[])
 | i :: is,s=>match stepOp P ops i (hintAt hs i) s with
  | none=>none
  | some (s',q,ns)=>match evalOps P ops hs is s' with
   | none=>none
   | some (s'',q',tr)=>some (s'',q++q',(i,ns) :: tr)
def masks:List Oper→List Nat→List Nat
 | [],acc=>acc
 | o :: r,acc=>masks r (acc++[o.after.toList.foldl (fun x e=>if Region.binds .any e then x ||| 2 ^ e.on ||| acc.getD e.on 0 else x) 0])
def disjoint:List Nat→List Nat→Bool
 | [],_=>true
 | n :: ns,ms=>!(ms.any (Nat.beq n ·))&&disjoint ns ms
def indep(ops:Array Oper)(j:Nat)(ns:List Nat)(i:Nat)(ms:List Nat):Bool:=
 match ops[j]?,ops[i]? with
 | some x,some y=>x.apart ops y&&((!Op.writes x.op&&!Op.writes y.op)||disjoint ns ms)
 | _,_=>false
def hintPair:Hint→Hint→Bool
 | .key (some _) _,.key (some _) _=>true
 | .key none (_ :: _),.key none _=>true
 | _,_=>false
def sameTmp:Operand→Operand→Bool
 | .tmp a,.tmp b=>Nat.beq a b
 | _,_=>false
def mapPair(ops:Array Oper)(hs:List (Nat×Hint))(j i:Nat):Bool:=
 match ops[j]?,ops[i]? with
 | some x,some y=>x.apart ops y&&x.guard.isNone&&y.guard.isNone&&(match x.op,y.op with
  | .lookup t m k false,.mapEntry t' m' k'=>Nat.beq t t'&&sameTmp m m'&&sameTmp k k'&&hintPair (hintAt hs j) (hintAt hs i)
  | _,_=>false)
 | _,_=>false
def pairsOk(ops:Array Oper)(hs:List (Nat×Hint))(mk:List Nat):List (Nat×List Nat)→Bool
 | []=>true
 | (j,ns) :: r=>(r.all fun p=>(mk.getD p.1 0).testBit j||indep ops j ns p.1 p.2||mapPair ops hs j p.1)&&pairsOk ops hs mk r
def dstOk(n:Nat):List Oper→List Nat→Bool
 | [],_=>true
 | o :: r,seen=>match o.dst with
  | none=>dstOk n r seen
  | some d=>Nat.blt d n&&!(seen.any (Nat.beq d ·))&&dstOk n r (d :: seen)
def edgesOk:List Oper→Nat→Bool
 | [],_=>true
 | o :: r,i=>(o.after.all fun e=>!Region.binds .any e||Nat.blt e.on i)&&edgesOk r (i+1)
end Go.Sym
