/- Part of the proof of the statement that the claim's last text names: contracts of functions and laws of the symbolic layer. -/
import Derived.Orders
import Derived.OrdersIn
import Derived.RangeFuncNested
import Derived.RangeFuncLeaves
import Derived.RangeFuncCalls
import Derived.Below
import Derived.Laws.AppendOwn
import Derived.Lib.LaidTab
import Derived.Lib.ItoaNum
set_option linter.unusedVariables false
set_option linter.unusedSimpArgs false
namespace Go.Sym
open Go.RowKit
inductive C where
 | junk
 | nil
 | int (k:IntKind) (n:Int)
 | bool (b:Bool)
 | str (s:ByteArray)
 | lit (v:Value)
 | lst (sz n:Nat) (f:Nat→List C)
 | kel (sz n:Nat) (f:Nat→List C) (i off:Nat)
 | kptr (cs:List C) (off:Nat)
 | clo (fn:Nat) (caps:List C)
 | meth (fn:Nat) (fs:List C)
 | kmap (kagg agg:Bool) (ents:List (List C×List C))
 | ptr (n off:Nat)
 | row (r n:Nat)
 | rel (r n sz i off:Nat)
 | oclo (bd:Bool) (fn:Nat) (caps:List (Nat×Nat))
 | omap (r:Nat)
 | yld (n:Nat)
inductive CV where
 | c (x:C)
 | agg (cs:List C)
 | pagg (cs:List C)
inductive SB where
 | v (x:CV)
 | tup (xs:List CV)
abbrev Path:=List (Nat×Bool)
inductive SV where
 | junk
 | b (x:SB)
 | may (p:Path) (x:SB)
 | pin (k:Nat) (x:SB)
inductive MO where
 | cells (cs:List C)
 | pcells (cs:List C)
 | tcells (T:TypeId) (cs:List C)
 | row (e sz:Nat) (css:List (List C))
 | omap (kagg agg:Bool) (ents:List (List C×List C))
 | gone
 | cnt (i:Nat) (xs:List (List CV)) (k:Nat)
 | bag (e sz:Nat) (css:List (List C))
structure S where
 t:List SV
 m:List (Option MO)
 g:List (Option Bool)
abbrev Know:=Nat→Option Obj
def Know.le(K K':Know):Prop:=∀ b o,K b=some o→K' b=some o
theorem Know.le_refl(K:Know):K.le K:=fun _ _ h=>h
theorem Know.le_trans{K K' K'':Know}(h:K.le K')(h':K'.le K''):K.le K'':=fun b o e=>h' b o (h b o e)
def Knows(K:Know)(w:World):Prop:=∀ b o,K b=some o→w.heap[b]?=some o
def tabName:String:= "internal/strconv.uint64pow10"
def tabArr:Array Value:=(Lib.pow10Tab.map fun z=>Value.int .u64 z).toArray
def Laid(P:Program)(K:Know):Prop:=∀ g,P.globalNamed tabName=some g→∃ T fz,K g=some (.cells tabArr T fz)
theorem Laid.mono{P:Program}{K K':Know}(h:K.le K')(hl:Laid P K):Laid P K':=fun g hg=>let ⟨T,fz,e⟩:=hl g hg;⟨T,fz,h _ _ e⟩
def oneOr(agg:Bool)(v:Value):Prop:=
 match agg with
 | true=>∃ arr,v=.agg arr
 | false=>v.oneCell'=true
inductive RelK (K:Know):C→Value→Prop where
 | junk (u:Value):RelK K .junk u
 | nil:RelK K .nil (.slice none 0 0)
 | int (k:IntKind) (n:Int):RelK K (.int k n) (.int k n)
 | bool (b:Bool):RelK K (.bool b) (.bool b)
 | str (s:ByteArray) (hs:s.size≤maxLen):RelK K (.str s) (.string s)
 | lit (v:Value) (hv:v.oneCell'=true):RelK K (.lit v) v
 | lst0 (sz:Nat) (f:Nat→List C):RelK K (.lst sz 0 f) (.slice none 0 0)
 | lst1 (sz:Nat) (f:Nat→List C) (a:Addr):RelK K (.lst sz 0 f) (.slice (some a) 0 0)
 | lst (sz n:Nat) (f:Nat→List C) (b off cap:Nat) (arr:Array Value) (T:TypeId) (fz:Nat×Nat) (g:Nat→Nat→Value)
   (hK:K b=some (.cells arr T fz)) (hg:∀ i j,i<n→j<sz→arr[off+i*sz+j]?=some (g i j)) (hl:∀ i,i<n→(f i).length=sz)
   (hr:∀ i j,i<n→j<sz→RelK K ((f i).getD j .junk) (g i j)) (ho:∀ i j,i<n→j<sz→(g i j).oneCell'=true) (hcap:n≤cap) (hmx:n≤maxLen):RelK K (.lst sz n f) (.slice (some ⟨b,off,none⟩) n cap)
 | kel (sz n:Nat) (f:Nat→List C) (i o:Nat) (b off:Nat) (arr:Array Value) (T:TypeId) (fz:Nat×Nat) (g:Nat→Nat→Value)
   (hK:K b=some (.cells arr T fz)) (hg:∀ i j,i<n→j<sz→arr[off+i*sz+j]?=some (g i j)) (hl:∀ i,i<n→(f i).length=sz)
   (hr:∀ i j,i<n→j<sz→RelK K ((f i).getD j .junk) (g i j)) (ho:∀ i j,i<n→j<sz→(g i j).oneCell'=true) (hi:i<n):RelK K (.kel sz n f i o) (.pointer (some ⟨b,off+i*sz+o,none⟩))
 | kptr (cs:List C) (off b:Nat) (arr:Array Value) (T:TypeId) (fz:Nat×Nat) (hK:K b=some (.cells arr T fz)) (hs:arr.size=cs.length)
   (hr:∀ j,j<cs.length→RelK K (cs.getD j .junk) (arr.getD j undef)) (ho:∀ j,j<cs.length→(arr.getD j undef).oneCell'=true):RelK K (.kptr cs off) (.pointer (some ⟨b,off,none⟩))
 | clo (fn:Nat) (caps:List C) (vs:Array Value) (hs:vs.size=caps.length) (hr:∀ j,j<caps.length→RelK K (caps.getD j .junk) (vs.getD j undef))
   (ho:∀ j,j<caps.length→(vs.getD j undef).oneCell'=true) :
   RelK K (.clo fn caps) (.func (.func fn) #[] vs)
 | meth (fn:Nat) (fs:List C) (vs:Array Value) (hs:vs.size=fs.length) (hr:∀ j,j<fs.length→RelK K (fs.getD j .junk) (vs.getD j undef))
   (ho:∀ j,j<fs.length→(vs.getD j undef).oneCell'=true) :
   RelK K (.meth fn fs) (.func (.func fn) vs #[])
 | kmap (kagg agg:Bool) (ents:List (List C×List C)) (b:Nat) (es:Array MapEntry) (g:Nat→MapEntry) (hK:K b=some (.map es es.size)) (hs:es.size=ents.length) (hst:∀ j,j<ents.length→(g j).born=j) (hg:∀ j,j<ents.length→es[j]?=some (g j))
   (hkl:∀ j,j<ents.length→(g j).key.cells.size=(ents.getD j ([],[])).1.length)
   (hk:∀ j i,j<ents.length→i<(ents.getD j ([],[])).1.length→RelK K ((ents.getD j ([],[])).1.getD i .junk) ((g j).key.cells.getD i undef))
   (hko:∀ j i,j<ents.length→i<(ents.getD j ([],[])).1.length→((g j).key.cells.getD i undef).oneCell'=true) (hka:∀ j,j<ents.length→oneOr kagg (g j).key)
   (hl:∀ j,j<ents.length→(g j).val.cells.size=(ents.getD j ([],[])).2.length)
   (hr:∀ j i,j<ents.length→i<(ents.getD j ([],[])).2.length→RelK K ((ents.getD j ([],[])).2.getD i .junk) ((g j).val.cells.getD i undef))
   (ho:∀ j i,j<ents.length→i<(ents.getD j ([],[])).2.length→((g j).val.cells.getD i undef).oneCell'=true)
   (ha:∀ j,j<ents.length→oneOr agg (g j).val):RelK K (.kmap kagg agg ents) (.map (some b))
theorem RelK.mono{K K':Know}(hle:K.le K'){c:C}{u:Value}(h:RelK K c u):RelK K' c u:=by
 induction h with
 | junk u=>exact .junk u
 | nil=>exact .nil
 | int k n=>exact .int k n
 | bool b=>exact .bool b
 | str s hs=>exact .str s hs
 | lit v hv=>exact .lit v hv
 | lst0 sz f=>exact .lst0 sz f
 | lst1 sz f a=>exact .lst1 sz f a
 | lst sz n f b off cap arr T fz g hK hg hl _ ho hcap hmx ih=>exact .lst sz n f b off cap arr T fz g (hle _ _ hK) hg hl ih ho hcap hmx
 | kel sz n f i o b off arr T fz g hK hg hl _ ho hi ih=>exact .kel sz n f i o b off arr T fz g (hle _ _ hK) hg hl ih ho hi
 | kptr cs off b arr T fz hK hs _ ho ih=>exact .kptr cs off b arr T fz (hle _ _ hK) hs ih ho
 | clo fn caps vs hs _ ho ih=>exact .clo fn caps vs hs ih ho
 | meth fn fs vs hs _ ho ih=>exact .meth fn fs vs hs ih ho
 | kmap kagg agg ents b es g hK hs hst hg hkl _ hko hka hl _ ho ha ih1 ih2=>exact .kmap kagg agg ents b es g (hle _ _ hK) hs hst hg hkl ih1 hko hka hl ih2 ho ha
theorem RelK.str_le{K:Know}{s:ByteArray}{u:Value}(h:RelK K (.str s) u):s.size≤maxLen:=by
 cases h;assumption
theorem RelK.lst_le{K:Know}{sz n:Nat}{f:Nat→List C}{u:Value}(h:RelK K (.lst sz n f) u):n≤maxLen:=by
 cases h<;>first | assumption | exact Nat.zero_le _
structure Cst where
 w0:World
 K0:Know
 ds:List Nat
 l:Nat
 i:Nat
 xs:List (List CV)
 k:Nat
 fix:Nat→Value
structure Env where
 K:Know
 cel:Nat→Option Nat
 rw:Nat→Option (Value×Nat)
 mp:Nat→Option Nat
 c:Cst
def RelP(E:Env)(n off:Nat)(u:Value):Prop:=∃ b,E.cel n=some b∧u=.pointer (some ⟨b,off,none⟩)
def cloV:Bool→Nat→Array Value→Value
 | true,fn,vs=>.func (.func fn) vs #[]
 | false,fn,vs=>.func (.func fn) #[] vs
def Rel(E:Env):C→Value→Prop
 | .ptr n off,u=>RelP E n off u
 | .row r n,u=>∃ hd len,E.rw r=some (hd,len)∧n≤len∧(n=len→u=hd)
 | .rel r n sz i off,u=>∃ hd len,E.rw r=some (hd,len)∧n≤len∧(n=len→∃ g cap,hd=.slice (some ⟨g,0,none⟩) n cap∧u=.pointer (some ⟨g,i*sz+off,none⟩))
 | .oclo bd fn caps,u=>∃ vs:Array Value,u=cloV bd fn vs∧vs.size=caps.length∧∀ j,j<caps.length→RelP E (caps.getD j (0,0)).1 (caps.getD j (0,0)).2 (vs.getD j undef)
 | .omap r,u=>∃ b,E.mp r=some b∧u=.map (some b)
 | .yld _,u=>u=.func (.yield E.c.l) #[] #[]
 | c,u=>RelK E.K c u
def C.isImm:C→Bool
 | .ptr .. | .row .. | .rel .. | .oclo .. | .omap .. | .yld ..=>false
 | _=>true
theorem RelK.one{K:Know}{c:C}{u:Value}(h:RelK K c u)(hc:c≠.junk):u.oneCell'=true:=by
 cases h<;>first | rfl | assumption | exact absurd rfl hc
theorem Rel.imm{E:Env}{c:C}{u:Value}(hc:c.isImm=true)(h:Rel E c u):RelK E.K c u:=by
 cases c<;>first | exact h | simp [C.isImm] at hc
theorem Rel.of_relK{E:Env}{c:C}{u:Value}(h:RelK E.K c u):Rel E c u:=by
 cases h
 case lst0=>exact RelK.lst0 _ _
 case lst1=>exact RelK.lst1 _ _ _
 case lst hK hg hl hr ho hcap hmx=>exact RelK.lst _ _ _ _ _ _ _ _ _ _ hK hg hl hr ho hcap hmx
 case kel hK hg hl hr ho hi=>exact RelK.kel _ _ _ _ _ _ _ _ _ _ _ hK hg hl hr ho hi
 case kptr hK hs hr ho=>exact RelK.kptr _ _ _ _ _ _ hK hs hr ho
 case clo hs hr ho=>exact RelK.clo _ _ _ hs hr ho
 case meth hs hr ho=>exact RelK.meth _ _ _ hs hr ho
 case kmap hK hs hst hg hkl hk hko hka hl hr ho ha=>exact RelK.kmap _ _ _ _ _ _ hK hs hst hg hkl hk hko hka hl hr ho ha
 case junk=>exact RelK.junk _
 case nil=>exact RelK.nil
 case int=>exact RelK.int _ _
 case bool=>exact RelK.bool _
 case str hs=>exact RelK.str _ hs
 case lit hv=>exact RelK.lit _ hv
def RelL(E:Env)(cs:List C)(arr:Array Value):Prop:=
 arr.size=cs.length∧∀ j,j<cs.length→Rel E (cs.getD j .junk) (arr.getD j undef)∧(arr.getD j undef).oneCell'=true
def RelLK(K:Know)(cs:List C)(arr:Array Value):Prop:=
 arr.size=cs.length∧∀ j,j<cs.length→RelK K (cs.getD j .junk) (arr.getD j undef)∧(arr.getD j undef).oneCell'=true
def RelCV(E:Env):CV→Value→Prop
 | .c x,u=>Rel E x u∧u.oneCell'=true
 | .agg cs,u=>∃ arr,u=.agg arr∧RelLK E.K cs arr
 | .pagg cs,u=>∃ arr,u=.agg arr∧RelL E cs arr
def RelSB(E:Env):SB→Value→Prop
 | .v x,u=>RelCV E x u
 | .tup xs,u=>∃ vs:Array Value,u=.tuple vs∧vs.size=xs.length∧∀ j,j<xs.length→RelCV E (xs.getD j (.c .junk)) (vs.getD j undef)
def bw(b:Bool):Bool→Bool
 | true=>b
 | false=>!b
def holds(γ:List (Option Bool)):Path→Bool
 | []=>true
 | (j,w) :: p=>holds γ p&&(match γ[j]? with | some (some b)=>bw b w | _=>false)
def RelSV(E:Env)(γ:List (Option Bool)):SV→Value→Prop
 | .junk,_=>True
 | .b x,u=>RelSB E x u
 | .may p x,u=>(holds γ p=true→RelSB E x u)∧(holds γ p=false→u=undef)
 | .pin k x,u=>RelSB E x u∧u=E.c.fix k
structure Env.Le (E E':Env):Prop where
 K:E.K.le E'.K
 cel:∀ n b,E.cel n=some b→E'.cel n=some b
 mp:∀ n b,E.mp n=some b→E'.mp n=some b
 c:E'.c=E.c
 rw:∀ r hd len,E.rw r=some (hd,len)→∃ hd' len',E'.rw r=some (hd',len')∧len≤len'∧(len'=len→hd'=hd)
theorem Env.Le.refl(E:Env):E.Le E:=⟨Know.le_refl _,fun _ _ h=>h,fun _ _ h=>h,rfl,fun _ hd len h=>⟨hd,len,h,Nat.le_refl _,fun _=>rfl⟩⟩
theorem Env.Le.trans{E E' E'':Env}(h:E.Le E')(h':E'.Le E''):E.Le E'':=
 ⟨Know.le_trans h.K h'.K,fun n b e=>h'.cel n b (h.cel n b e),fun n b e=>h'.mp n b (h.mp n b e),h'.c.trans h.c,fun r hd len e=>by
  obtain ⟨hd1,len1,e1,l1,q1⟩:=h.rw r hd len e
  obtain ⟨hd2,len2,e2,l2,q2⟩:=h'.rw r hd1 len1 e1
  exact ⟨hd2,len2,e2,by omega,fun q=>by
   have:len1=len:=by omega
   subst this
   exact (q2 (by omega)).trans (q1 rfl)⟩⟩
theorem RelP.mono{E E':Env}(h:E.Le E'){n off:Nat}{u:Value}(hr:RelP E n off u):RelP E' n off u:=by
 obtain ⟨b,e,hu⟩:=hr
 exact ⟨b,h.cel _ _ e,hu⟩
theorem Rel.mono{E E':Env}(h:E.Le E'){c:C}{u:Value}(hr:Rel E c u):Rel E' c u:=by
 cases c
 case ptr=>exact RelP.mono h hr
 case row r n =>
  obtain ⟨hd,len,e,hl,q⟩:=hr
  obtain ⟨hd',len',e',hl',q'⟩:=h.rw r hd len e
  exact ⟨hd',len',e',by omega,fun hn=>by
   have h1:len'=len:=by omega
   have h2:n=len:=by omega
   rw [q' h1];exact q h2⟩
 case rel r n sz i off =>
  obtain ⟨hd,len,e,hl,q⟩:=hr
  obtain ⟨hd',len',e',hl',q'⟩:=h.rw r hd len e
  exact ⟨hd',len',e',by omega,fun hn=>by
   have h1:len'=len:=by omega
   have h2:n=len:=by omega
   rw [q' h1];exact q h2⟩
 case oclo bd fn caps =>
  obtain ⟨vs,hu,hs,hp⟩:=hr
  exact ⟨vs,hu,hs,fun j hj=>(hp j hj).mono h⟩
 case omap r =>
  obtain ⟨b,e,hu⟩:=hr
  exact ⟨b,h.mp _ _ e,hu⟩
 case yld n =>
  show u=.func (.yield E'.c.l) #[] #[]
  rw [h.c];exact hr
 all_goals exact RelK.mono h.K hr
theorem RelL.mono{E E':Env}(h:E.Le E'){cs:List C}{arr:Array Value}(hr:RelL E cs arr):RelL E' cs arr:=
 ⟨hr.1,fun j hj=>⟨(hr.2 j hj).1.mono h,(hr.2 j hj).2⟩⟩
theorem RelLK.mono{K K':Know}(h:K.le K'){cs:List C}{arr:Array Value}(hr:RelLK K cs arr):RelLK K' cs arr:=
 ⟨hr.1,fun j hj=>⟨(hr.2 j hj).1.mono h,(hr.2 j hj).2⟩⟩
theorem RelLK.relL{E:Env}{cs:List C}{arr:Array Value}(hr:RelLK E.K cs arr):RelL E cs arr:=
 ⟨hr.1,fun j hj=>⟨Rel.of_relK (hr.2 j hj).1,(hr.2 j hj).2⟩⟩
theorem RelCV.mono{E E':Env}(h:E.Le E'){x:CV}{u:Value}(hr:RelCV E x u):RelCV E' x u:=by
 cases x with
 | c x=>exact ⟨hr.1.mono h,hr.2⟩
 | agg cs=>obtain ⟨arr,hu,hl⟩:=hr;exact ⟨arr,hu,hl.mono h.K⟩
 | pagg cs=>obtain ⟨arr,hu,hl⟩:=hr;exact ⟨arr,hu,hl.mono h⟩
theorem RelSB.mono{E E':Env}(h:E.Le E'){x:SB}{u:Value}(hr:RelSB E x u):RelSB E' x u:=by
 cases x with
 | v x=>exact RelCV.mono h hr
 | tup xs=>obtain ⟨vs,hu,hs,hl⟩:=hr;exact ⟨vs,hu,hs,fun j hj=>(hl j hj).mono h⟩
theorem RelSV.mono{E E':Env}(h:E.Le E'){γ:List (Option Bool)}{x:SV}{u:Value}(hr:RelSV E γ x u):RelSV E' γ x u:=by
 cases x with
 | junk=>trivial
 | b x=>exact RelSB.mono h hr
 | may p x=>exact ⟨fun hp=>RelSB.mono h (hr.1 hp),hr.2⟩
 | pin k x=>exact ⟨RelSB.mono h hr.1,by rw [h.c];exact hr.2⟩
def RelCVK(K:Know):CV→Value→Prop
 | .c x,u=>RelK K x u∧u.oneCell'=true
 | .agg cs,u=>∃ arr,u=.agg arr∧RelLK K cs arr
 | .pagg _,_=>False
def RelSBK(K:Know):SB→Value→Prop
 | .v x,u=>RelCVK K x u
 | .tup xs,u=>∃ vs:Array Value,u=.tuple vs∧vs.size=xs.length∧∀ j,j<xs.length→RelCVK K (xs.getD j (.c .junk)) (vs.getD j undef)
theorem RelCVK.rel{E:Env}{x:CV}{u:Value}(h:RelCVK E.K x u):RelCV E x u:=by
 cases x with
 | c x=>exact ⟨Rel.of_relK h.1,h.2⟩
 | agg cs=>exact h
 | pagg cs=>exact h.elim
theorem RelSBK.rel{E:Env}{x:SB}{u:Value}(h:RelSBK E.K x u):RelSB E x u:=by
 cases x with
 | v x=>exact RelCVK.rel h
 | tup xs=>obtain ⟨vs,hu,hs,hl⟩:=h;exact ⟨vs,hu,hs,fun j hj=>(hl j hj).rel⟩
def CV.isImm:CV→Bool
 | .c x=>x.isImm
 | .agg _=>true
 | .pagg _=>false
theorem RelCV.imm{E:Env}{x:CV}{u:Value}(hx:x.isImm=true)(h:RelCV E x u):RelCVK E.K x u:=by
 cases x with
 | c x=>exact ⟨Rel.imm hx h.1,h.2⟩
 | agg cs=>exact h
 | pagg cs=>simp [CV.isImm] at hx
def MapRel(K:Know)(kagg agg:Bool)(ents:List (List C×List C))(es:Array MapEntry):Prop:=
 es.size=ents.length∧∀ (j:Nat) (e:MapEntry),es[j]?=some e→(RelLK K (ents.getD j ([],[])).1 e.key.cells∧oneOr kagg e.key)∧(RelLK K (ents.getD j ([],[])).2 e.val.cells∧oneOr agg e.val)∧e.born=j
theorem MapRel.mono{K K':Know}(h:K.le K'){kagg agg:Bool}{ents:List (List C×List C)}{es:Array MapEntry}(hr:MapRel K kagg agg ents es):MapRel K' kagg agg ents es:=
 ⟨hr.1,fun j e he=>let ⟨⟨h1,h2⟩,⟨h3,h4⟩,h5⟩:=hr.2 j e he;⟨⟨h1.mono h,h2⟩,⟨h3.mono h,h4⟩,h5⟩⟩
def SelfNil(b:Nat)(arr:Array Value):Prop:=arr.getD 0 undef=.pointer none∨arr.getD 0 undef=.pointer (some ⟨b,0,none⟩)
def MRel(E:Env)(w:World)(n:Nat):MO→Prop
 | .cells cs=>∃ b arr T,E.cel n=some b∧w.heap[b]?=some (.cells arr T (0,0))∧RelLK E.K cs arr
 | .pcells cs=>∃ b arr T,E.cel n=some b∧w.heap[b]?=some (.cells arr T (0,0))∧RelL E cs arr
 | .tcells T cs=>∃ b arr,E.cel n=some b∧w.heap[b]?=some (.cells arr T (0,0))∧SelfNil b arr∧RelL E cs arr
 | .row e sz css=>0<sz∧(∀ c,c∈css→c.length=sz)∧∃ hd xs,E.rw n=some (hd,css.length)∧w.ownsRow 0 e sz hd css.length xs∧RelLK E.K css.flatten xs.toArray
 | .omap kagg agg ents=>∃ b es,E.mp n=some b∧w.heap[b]?=some (.map es es.size)∧MapRel E.K kagg agg ents es
 | .gone=>∃ hd len,E.rw n=some (hd,len)∧hd.ownBlock=none
 | .cnt i xs k=>i=E.c.i∧xs=E.c.xs∧k=E.c.k
 | .bag e sz css=>∃ css':List (List C),css'.Perm css∧0<sz∧(∀ c,c∈css'→c.length=sz)∧∃ hd xs,E.rw n=some (hd,css'.length)∧w.ownsRow 0 e sz hd css'.length xs∧RelLK E.K css'.flatten xs.toArray
def MO.boxy:MO→Bool
 | .cells .. | .pcells .. | .tcells ..=>true
 | _=>false
def MO.rowy:MO→Bool
 | .row .. | .gone | .bag ..=>true
 | _=>false
def Env.holds(E:Env)(n b:Nat):Prop:=E.cel n=some b∨E.mp n=some b∨∃ hd len,E.rw n=some (hd,len)∧hd.ownBlock=some b
def FB(r:Option Nat):Fence:={ fn:=fun _=>True,depth:=none,alive:=false,round:=r }
structure Base (P:Program) where
 r:Option Nat
 fn:Bool
 N:Nat
 W:Nat→Prop
 l:Nat
 xs:List (List CV)
 k:Nat
 fix:Nat→Value
 tl:List Deferred:=[]
 J:Nat→Know→World→Prop
 fnN:fn=true→∀ i K w,J i K w→N≤w.heap.size
 yields:∀ i K w K' w' vs,J i K w→K.le K'→(∀ b,b<w.heap.size→K b=none→K' b=none)→Knows K' w'→(w'.os=w.os∧w'.tape=w.tape∧w'.output=w.output∧w.heap.size≤w'.heap.size∧∀ b,b<w.heap.size→¬ W b→w'.heap[b]?=w.heap[b]?)→i<xs.length→i≤k →
  vs.size=(xs.getD i []).length→(∀ j,j<(xs.getD i []).length→RelCVK K' ((xs.getD i []).getD j (.c .junk)) (vs.getD j undef)) →
  YieldAt (FB none) 0 P l vs w' fun e w''=>e=.returned (.bool (decide (i<k)))∧∃ K'',K'.le K''∧(∀ b,b<w'.heap.size→K' b=none→K'' b=none)∧Knows K'' w''∧J (i+1) K'' w''
structure Core {P:Program} (B:Base P) (E:Env) (m:List (Option MO)) (w:World):Prop where
 know:Knows E.K w
 laid:Laid P E.K
 base:E.c.K0.le E.K
 nk:∀ b,b<E.c.w0.heap.size→E.c.K0 b=none→E.K b=none
 mem:∀ n o,m[n]?=some (some o)→MRel E w n o
 cel:∀ n b,E.cel n=some b→∃ o,m[n]?=some (some o)∧o.boxy=true
 rw:∀ n x,E.rw n=some x→∃ o,m[n]?=some (some o)∧o.rowy=true
 mp:∀ n b,E.mp n=some b→∃ kagg agg ents,m[n]?=some (some (.omap kagg agg ents))
 inj:∀ n n' b,E.holds n b→E.holds n' b→n=n'
 apart:∀ n b,E.holds n b→E.K b=none
 new:∀ n b,E.holds n b→E.c.w0.heap.size≤b∨B.W b
 lt:∀ n b,E.holds n b→b<w.heap.size
 os:w.os=E.c.w0.os
 tape:w.tape=E.c.w0.tape
 output:w.output=E.c.w0.output
 size:E.c.w0.heap.size≤w.heap.size
 old:∀ b,b<E.c.w0.heap.size→¬ B.W b→w.heap[b]?=E.c.w0.heap[b]?
 j:B.J E.c.i E.c.K0 E.c.w0
 y:E.c.l=B.l∧E.c.xs=B.xs∧E.c.k=B.k∧E.c.fix=B.fix
 dsk:∀ D,D∈E.c.ds→E.K D=some (.deferred (some []))∧B.N≤D∧B.fn=true
 dsn:E.c.ds.Nodup
def markOf(D:Nat):Deferred:={ target:=.collected D,args:=#[] }
structure Sim {P:Program} (B:Base P) (E:Env) (s:S) (a:Act) (w:World):Prop where
 core:Core B E s.m w
 size:a.tmps.size=s.t.length
 defers:a.defers=E.c.ds.map markOf++B.tl
 slot:∀ k x,s.t[k]?=some x→RelSV E s.g x (a.tmps.getD k undef)
theorem gE{α:Type _}{l:List α}{i:Nat}{a:α}:l.getD i a=l[i]?.getD a:=List.getD_eq_getElem?_getD
theorem heapOld(w:World)(o:Obj)(i:Nat)(h:i<w.heap.size):(w.alloc o).heap[i]?=w.heap[i]?:=by
 show (w.heap.push o)[i]?=_
 rw [Array.getElem?_push_lt h,Array.getElem?_eq_getElem h]
end Go.Sym
