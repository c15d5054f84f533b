/- Part of the proof of the statement that the claim's last text names: contracts of functions and laws of the symbolic layer. -/
import Derived.Carry
import Derived.ChangeArms
import Derived.ChangeOld
import Derived.OpenShut
import Derived.ChangeSame
import Derived.ChangeShapes
import Derived.DataReads
import Derived.Handed
import Derived.Deep.Slices
import Derived.Test.YtidbmbpeblmliaaGreatDoorU12
import Derived.Test.YtidbmbpeblmliaaGreatDoorProg
import Derived.Test.YtidbmbpeblmliaaGreatDoorO08
set_option linter.unusedVariables false
set_option linter.unusedSimpArgs false
namespace Go.Sym
open Go.RowKit Go.ChangeShapes Go.WideShapes
inductive Sh where
 | bool
 | int (k:IntKind)
 | str
 | sl (sz:Nat) (s:Sh)
 | nil
 | cat (a b:Sh)
def Sh.len:Sh→Nat
 | .bool=>1
 | .int _=>1
 | .str=>1
 | .sl _ _=>1
 | .nil=>0
 | .cat a b=>a.len+b.len
def Sh.ok:Sh→List C→Prop
 | .bool,cs=>∃ b,cs=[.bool b]
 | .int k,cs=>∃ n,cs=[.int k n]∧k.min≤n∧n≤k.max
 | .str,cs=>∃ s:ByteArray,cs=[.str s]∧s.size≤maxLen
 | .sl sz s,cs=>∃ n f,cs=[.lst sz n f]∧n≤maxLen∧∀ i,i<n→s.ok (f i)
 | .nil,cs=>cs=[]
 | .cat a b,cs=>∃ x y,cs=x++y∧a.ok x∧b.ok y
def shFields(g:TypeId→Option Sh)(sz:TypeId→Nat):Nat→List Field→Option Sh
 | _,[]=>some .nil
 | off,f :: fs=>match Nat.beq f.offset off,g f.type with
  | true,some s=>match Nat.beq s.len (sz f.type),shFields g sz (off+s.len) fs with
   | true,some r=>some (.cat s r)
   | _,_=>none
  | _,_=>none
def repSh(s:Sh):Nat→Sh
 | 0=>.nil
 | n+1=>.cat s (repSh s n)
def shT(P:Program):Nat→TypeId→Option Sh
 | 0,_=>none
 | d+1,t=>match P.underlying t with
  | some .bool=>some .bool
  | some (.int k)=>some (.int k)
  | some .string=>some .str
  | some (.slice e)=>match shT P d e with
   | some s=>match Nat.blt 0 (P.cellsOf e)&&Nat.beq s.len (P.cellsOf e) with
    | true=>some (.sl (P.cellsOf e) s)
    | false=>none
   | none=>none
  | some (.struct fs)=>match shFields (shT P d) P.cellsOf 0 fs.toList with
   | some s=>match Nat.beq s.len (P.cellsOf t) with
    | true=>some s
    | false=>none
   | none=>none
  | some (.array n e)=>match shT P d e with
   | some s=>match Nat.beq s.len (P.cellsOf e)&&Nat.beq (n*s.len) (P.cellsOf t) with
    | true=>some (repSh s n)
    | false=>none
   | none=>none
  | _=>none
def RL(K:Know)(cs:List C)(us:List Value):Prop:=us.length=cs.length∧∀ j,j<cs.length→RelK K (cs.getD j .junk) (us.getD j undef)∧(us.getD j undef).oneCell'=true
theorem RL.nil{K:Know}:RL K [] []:=⟨rfl,fun j hj=>by simp at hj⟩
theorem RL.one{K:Know}{c:C}{u:Value}(h:RelK K c u)(h1:u.oneCell'=true):RL K [c] [u]:=⟨rfl,fun j hj=>by
 have:j=0:=by simpa using hj
 subst this
 exact ⟨h,h1⟩⟩
theorem RL.append{K:Know}{a b:List C}{u v:List Value}(h:RL K a u)(h':RL K b v):RL K (a++b) (u++v):=by
 refine ⟨by simp [h.1,h'.1],fun j hj=>?_⟩
 simp only [gE]
 by_cases hja:j<a.length
 ·rw [List.getElem?_append_left hja,List.getElem?_append_left (by rw [h.1];exact hja)]
  simpa [gE] using h.2 j hja
 ·have hl:=h.1
  rw [List.getElem?_append_right (by omega),List.getElem?_append_right (by omega),hl]
  rw [List.length_append] at hj
  simpa [gE] using h'.2 (j - a.length) (by omega)
section
variable {H:Type} {enc:TypeId×Value→H} {P:Program} {W:World} {held:Bool}
def allK(W:World):Know:=fun b=>W.heap[b]?
def Opens(enc:TypeId×Value→H)(P:Program)(W:World)(held:Bool)(n:Nat)(t:TypeId)(s:Sh):Prop:=
 ∀ (m:Nat) (us:List Value) (x:DataW H×List MemPlace),DataW.trod enc P W 0 (fun _=>true) held m t us=some x→∃ cs,s.ok cs∧cs.length=s.len∧RL (allK W) cs us
theorem opens_fields{d:Nat}(ih:∀ t s,shT P d t=some s→Opens enc P W held d t s)(us:List Value)(m:Nat):∀ (fs:List Field) (off:Nat) (s:Sh) (xs:List (DataW H×List MemPlace)),shFields (shT P d) P.cellsOf off fs=some s →
  xs.length=fs.length→(∀ (i:Nat) (f:Field),fs[i]?=some f→DataW.trod enc P W 0 (fun _=>true) held m f.type ((us.drop f.offset).take (P.cellsOf f.type))=xs[i]?)→off+s.len=us.length →
  ∃ cs,s.ok cs∧cs.length=s.len∧RL (allK W) cs (us.drop off):=by
 intro fs
 induction fs with
 | nil =>
  intro off s xs h _ _ hl
  simp only [shFields,Option.some.injEq] at h
  subst h
  simp only [Sh.len] at hl
  refine ⟨[],rfl,rfl,?_⟩
  rw [List.drop_eq_nil_of_le (by omega)]
  exact RL.nil
 | cons f fs ihf =>
  intro off s xs h hx hf hl
  simp only [shFields] at h
  split at h
  case h_2=>cases h
  rename_i sf hoff hsf
  have ho:=Nat.eq_of_beq_eq_true hoff
  split at h
  case h_2=>cases h
  rename_i r hlen hr
  cases h
  have hsl:=Nat.eq_of_beq_eq_true hlen
  cases xs with
  | nil=>simp at hx
  | cons x xs =>
   simp only [Sh.len] at hl
   obtain ⟨c1,k1,k2,k3⟩:=ih _ _ hsf _ _ _ (hf 0 f rfl)
   obtain ⟨c2,l1,l2,l3⟩:=ihf (off+sf.len) r xs hr (by simpa using hx) (fun i g hg=>hf (i+1) g hg) (by omega)
   refine ⟨c1++c2,⟨c1,c2,rfl,k1,l1⟩,by simp [k2,l2,Sh.len],?_⟩
   have:=k3.append l3
   rw [ho,← hsl] at this
   rwa [← List.drop_drop,List.take_append_drop] at this
theorem opens_items{d:Nat}{e:TypeId}{s:Sh}(ih:Opens enc P W held d e s)(hs:s.len=P.cellsOf e)(us:List Value)(m:Nat):∀ (n i:Nat) (xs:List (DataW H×List MemPlace)),i+n=xs.length →
  (∀ j,j<i+n→DataW.trod enc P W 0 (fun _=>true) held m e ((us.drop (j*P.cellsOf e)).take (P.cellsOf e))=xs[j]?)→us.length=(i+n)*s.len →
  ∃ cs,(repSh s n).ok cs∧cs.length=(repSh s n).len∧RL (allK W) cs (us.drop (i*s.len)):=by
 intro n
 induction n with
 | zero =>
  intro i xs _ _ hl
  refine ⟨[],rfl,rfl,?_⟩
  rw [List.drop_eq_nil_of_le (by rw [hl];simp)]
  exact RL.nil
 | succ n ihn =>
  intro i xs hx hf hl
  have hlt:i<xs.length:=by omega
  have h0:=hf i (by omega)
  rw [List.getElem?_eq_getElem hlt] at h0
  obtain ⟨c1,k1,k2,k3⟩:=ih _ _ _ h0
  obtain ⟨c2,l1,l2,l3⟩:=ihn (i+1) xs (by omega) (fun j hj=>hf j (by omega)) (by rw [hl];congr 1;omega)
  refine ⟨c1++c2,⟨c1,c2,rfl,k1,l1⟩,by simp [k2,l2,repSh,Sh.len],?_⟩
  have:=k3.append l3
  rw [← hs,show (i+1)*s.len=i*s.len+s.len by rw [Nat.add_mul,Nat.one_mul]] at this
  rwa [← List.drop_drop,List.take_append_drop] at this
theorem wf_range{k:IntKind}{n:Int}(h:(Lit.int k n).wf=true):k.min≤n∧n≤k.max:=by
 simpa [Lit.wf] using h
theorem opens_slice{d:Nat}{t e:TypeId}{s:Sh}(ht:P.underlying t=some (.slice e))(ih:Opens enc P W held d e s)(h0:0<P.cellsOf e)(hs:s.len=P.cellsOf e):Opens enc P W held (d+1) t (.sl (P.cellsOf e) s):=by
 intro m us x h
 rcases DataW.trod_slice ht h with ⟨rfl,rfl⟩ | ⟨a,len,cap,elems,rest,n,_,rfl,rfl,hb,hl,hm,hlen,hel,hsp,_⟩
 ·exact ⟨[.lst (P.cellsOf e) 0 fun _=>[]],⟨0,_,rfl,Nat.zero_le _,fun i hi=>by omega⟩,rfl,RL.one (.lst0 _ _) rfl⟩
 ·have each:∀ i,i<len→∃ c us',s.ok c∧RL (allK W) c us'∧us'.length=P.cellsOf e∧∀ j,j<P.cellsOf e→W.cell? (a.add (i*P.cellsOf e+j))=us'[j]?:=by
   intro i hi
   have h1:=hel i hi
   rw [List.getElem?_eq_getElem (by omega)] at h1
   simp only [Option.bind_eq_some_iff] at h1
   obtain ⟨us',hc,hy⟩:=h1
   obtain ⟨c,k1,k2,k3⟩:=ih _ _ _ hy
   obtain ⟨_,q1,q2⟩:=World.cells?_some hc
   refine ⟨c,us',k1,k3,q1,fun j hj=>?_⟩
   rw [← Go.Deep.add_add];exact q2 j hj
  by_cases hcap:cap=0
  ·subst hcap
   have:len=0:=by omega
   subst this
   exact ⟨[.lst (P.cellsOf e) 0 fun _=>[]],⟨0,_,rfl,Nat.zero_le _,fun i hi=>by omega⟩,rfl,RL.one (.lst1 _ _ a) rfl⟩
  ·
   have hfirst:∃ v,W.cell? a=some v:=by
    by_cases hl0:len=0
    ·obtain ⟨hr1,hr2⟩:=hsp rfl
     have h1:=hr2 0 (by omega)
     rw [List.getElem?_eq_getElem (by omega)] at h1
     simp only [Option.bind_eq_some_iff] at h1
     obtain ⟨us',hc,_⟩:=h1
     obtain ⟨_,q1,q2⟩:=World.cells?_some hc
     have:=q2 0 h0
     rw [List.getElem?_eq_getElem (by omega)] at this
     simp only [hl0,Nat.zero_add,Nat.zero_mul] at this
     exact ⟨_,by simpa [Addr.add] using this⟩
    ·obtain ⟨c,us',_,_,q1,q2⟩:=each 0 (by omega)
     have:=q2 0 h0
     rw [List.getElem?_eq_getElem (by omega)] at this
     exact ⟨_,by simpa [Addr.add] using this⟩
   obtain ⟨v0,hv0⟩:=hfirst
   obtain ⟨b,off,spot⟩:=a
   have hblk:spot=none∧∃ arr T fz,W.heap[b]?=some (.cells arr T fz):=by
    unfold World.cell? at hv0
    split at hv0
    ·rename_i c T fz hbk
     split at hv0
     ·cases hv0
     ·rename_i hsp
      refine ⟨?_,c,T,fz,hbk⟩
      cases spot with
      | none=>rfl
      | some _=>simp at hsp
    ·cases hv0
   obtain ⟨rfl,arr,T,fz,hbk⟩:=hblk
   have cellAt:∀ k,W.cell? ((⟨b,off,none⟩:Addr).add k)=arr[off+k]?:=fun k=>by
    rw [Addr.add_lit,cell_of_row W b (off+k) arr T fz hbk]
   classical
   let f:Nat→List C:=fun i=>if h:i<len then Classical.choose (each i h) else []
   have hf:∀ i (h:i<len),∃ us',s.ok (f i)∧RL (allK W) (f i) us'∧us'.length=P.cellsOf e∧∀ j,j<P.cellsOf e→arr[off+(i*P.cellsOf e+j)]?=us'[j]?:=fun i h=>by
    have:=Classical.choose_spec (each i h)
    simp only [f,dif_pos h]
    obtain ⟨us',g1,g2,g3,g4⟩:=this
    exact ⟨us',g1,g2,g3,fun j hj=>by rw [← cellAt];exact g4 j hj⟩
   have hval:∀ i j,i<len→j<P.cellsOf e→arr[off+i*P.cellsOf e+j]?=some (arr.getD (off+i*P.cellsOf e+j) undef)∧RelK (allK W) ((f i).getD j .junk) (arr.getD (off+i*P.cellsOf e+j) undef)∧(arr.getD (off+i*P.cellsOf e+j) undef).oneCell'=true:=by
    intro i j hi hj
    obtain ⟨us',g1,g2,g3,g4⟩:=hf i hi
    have h1:=g4 j hj
    rw [List.getElem?_eq_getElem (by omega),← Nat.add_assoc] at h1
    have h2:arr.getD (off+i*P.cellsOf e+j) undef=us'[j]:=by simp [h1]
    rw [h2]
    refine ⟨h1,?_⟩
    have:=g2.2 j (by rw [← g2.1];omega)
    simpa [gE,show j<us'.length by omega] using this
   refine ⟨[.lst (P.cellsOf e) len f],⟨len,f,rfl,by omega,fun i hi=>(hf i hi).choose_spec.1⟩,rfl,RL.one (.lst _ len f b off cap arr T fz (fun i j=>arr.getD (off+i*P.cellsOf e+j) undef) hbk (fun i j hi hj=>(hval i j hi hj).1) (fun i hi=>?_) (fun i j hi hj=>(hval i j hi hj).2.1) (fun i j hi hj=>(hval i j hi hj).2.2) hl (by omega)) rfl⟩
   obtain ⟨us',g1,g2,g3,_⟩:=hf i hi
   rw [← g2.1];exact g3
theorem opens_of:∀ (d:Nat) (t:TypeId) (s:Sh),shT P d t=some s→Opens enc P W held d t s
 | 0,t,s,h=>by simp [shT] at h
 | d+1,t,s,h=>by
  unfold shT at h
  split at h
  ·rename_i hu
   cases h
   intro m us x hx
   obtain ⟨b,rfl,_⟩:=DataW.trod_bool hu hx
   exact ⟨[.bool b],⟨b,rfl⟩,rfl,RL.one (.bool b) rfl⟩
  ·rename_i k hu
   cases h
   intro m us x hx
   obtain ⟨n,rfl,_,hw⟩:=DataW.trod_int hu hx
   exact ⟨[.int k n],⟨n,rfl,wf_range hw⟩,rfl,RL.one (.int k n) rfl⟩
  ·rename_i hu
   cases h
   intro m us x hx
   obtain ⟨st,rfl,_,hw⟩:=DataW.trod_string hu hx
   exact ⟨[.str st],⟨st,rfl,hw⟩,rfl,RL.one (.str st hw) rfl⟩
  ·rename_i e hu
   split at h
   case h_2=>cases h
   rename_i s' hs'
   split at h
   case h_2=>cases h
   rename_i hck
   cases h
   simp only [Bool.and_eq_true,Nat.blt_eq] at hck
   exact opens_slice hu (opens_of d e s' hs') hck.1 (Nat.eq_of_beq_eq_true hck.2)
  ·rename_i fs hu
   split at h
   case h_2=>cases h
   rename_i s' hs'
   split at h
   case h_2=>cases h
   rename_i hck
   cases h
   intro m us x hx
   obtain ⟨xs,n,_,_,hcl,hxl,hf⟩:=DataW.trod_struct hu hx
   have:=opens_fields (fun t s h=>opens_of d t s h) us n fs.toList 0 s xs hs' (by simpa using hxl) (fun i f hi=>hf i f (by simpa using hi)) (by rw [hcl,← Nat.eq_of_beq_eq_true hck];omega)
   simpa using this
  ·rename_i n e hu
   split at h
   case h_2=>cases h
   rename_i s' hs'
   split at h
   case h_2=>cases h
   rename_i hck
   cases h
   simp only [Bool.and_eq_true] at hck
   intro m us x hx
   obtain ⟨xs,m',_,_,hcl,hxl,hf⟩:=DataW.trod_array hu hx
   have:=opens_items (opens_of d e s' hs') (Nat.eq_of_beq_eq_true hck.1) us m' n 0 xs (by omega) (fun j hj=>hf j (by omega)) (by rw [hcl,← Nat.eq_of_beq_eq_true hck.2];simp)
   simpa using this
  ·cases h
def cvT(P:Program)(t:TypeId)(cs:List C):CV:=if isAggT P t then .agg cs else .c (cs.getD 0 .junk)
theorem arg_open{d:Nat}{t:TypeId}{s:Sh}{base:Nat}{v:Value}{x:DataW H}{p:List MemPlace}(hs:shT P d t=some s)(hok:Value.okWide P W .any base t v)(h:DataW.Trod enc P W 0 (fun _=>true) held t v x p):
  ∃ cs,s.ok cs∧RelCVK (allK W) (cvT P t cs) v:=by
 obtain ⟨m,h⟩:=h
 obtain ⟨cs,h1,h2,h3⟩:=opens_of d t s hs _ _ _ h
 refine ⟨cs,h1,?_⟩
 unfold cvT
 cases hag:isAggT P t with
 | true =>
  have hv:∃ us,v=.agg us:=by
   unfold isAggT at hag
   unfold Value.okWide at hok
   split at hag
   ·rename_i fs hu
    rw [hu] at hok
    obtain ⟨us,rfl,_⟩:=hok
    exact ⟨us,rfl⟩
   ·rename_i n e hu
    rw [hu] at hok
    obtain ⟨us,rfl,_⟩:=hok
    exact ⟨us,rfl⟩
   ·cases hag
  obtain ⟨us,rfl⟩:=hv
  simp only [if_true]
  refine ⟨us,rfl,by simpa [Value.cells] using h3.1,fun j hj=>?_⟩
  have:=h3.2 j hj
  simpa [Value.cells,gE] using this
 | false =>
  simp only [Bool.false_eq_true,if_false]
  have hv:v.cells=#[v]:=by
   cases d with
   | zero=>simp [shT] at hs
   | succ d =>
    unfold shT at hs
    unfold isAggT at hag
    unfold Value.okWide Cell.okWide Cell.ok at hok
    cases v<;>first | rfl | skip
    all_goals
     exfalso
     cases hu:P.underlying t with
     | none=>simp [hu] at hs
     | some dsc=>cases dsc<;>simp [hu] at hag hs hok
  have hl:=h3.1
  rw [hv] at hl h3
  have h0:0<cs.length:=by rw [← hl];simp
  exact h3.2 0 h0
end
theorem RelK.lst_congr{K:Know}{sz n:Nat}{f g:Nat→List C}{u:Value}(h:RelK K (.lst sz n f) u)(hfg:∀ i,i<n→f i=g i):RelK K (.lst sz n g) u:=by
 cases h with
 | lst0=>exact .lst0 _ _
 | lst1=>exact .lst1 _ _ _
 | lst _ _ _ b off cap arr T fz v hK hg hl hr ho hcap hmx =>
  exact .lst sz n g b off cap arr T fz v hK hg (fun i hi=>by rw [← hfg i hi];exact hl i hi) (fun i j hi hj=>by rw [← hfg i hi];exact hr i j hi hj) ho hcap hmx
def CVle(x y:CV):Prop:=∀ K v,RelCVK K x v→RelCVK K y v
theorem CVle.refl(x:CV):CVle x x:=fun _ _ h=>h
theorem CVle.lst{sz n:Nat}{f g:Nat→List C}(hfg:∀ i,i<n→f i=g i):CVle (.c (.lst sz n f)) (.c (.lst sz n g)):=fun K v h=>⟨RelK.lst_congr h.1 hfg,h.2⟩
def CVles:List CV→List CV→Prop
 | [],[]=>True
 | x :: xs,y :: ys=>CVle x y∧CVles xs ys
 | _,_=>False
theorem CVles.spec:∀ {xs ys:List CV},CVles xs ys→xs.length=ys.length∧∀ j,j<ys.length→CVle (xs.getD j (.c .junk)) (ys.getD j (.c .junk)):=by
 intro xs
 induction xs with
 | nil=>intro ys h;cases ys with
  | nil=>exact ⟨rfl,fun j hj=>by simp at hj⟩
  | cons=>exact h.elim
 | cons x xs ih=>intro ys h;cases ys with
  | nil=>exact h.elim
  | cons y ys =>
   obtain ⟨h1,h2⟩:=ih h.2
   refine ⟨by simp [h1],fun j hj=>?_⟩
   cases j with
   | zero=>exact h.1
   | succ j=>simpa [gE] using h2 j (by simpa using hj)
theorem FCall.of_le{P:Program}{f:FuncId}{args args':List CV}{r:SB}(h:FCall P f args r)(hle:CVles args' args):FCall P f args' r:=by
 obtain ⟨h1,h2⟩:=hle.spec
 exact ⟨h.1,fun K w vs hKl hK hs hr=>h.2 K w vs hKl hK (by rw [hs,h1]) (fun j hj=>h2 j hj K _ (hr j (by rw [h1];exact hj)))⟩
def argsOk:List Sh→List (List C)→Prop
 | [],[]=>True
 | s :: ss,c :: cs=>s.ok c∧argsOk ss cs
 | _,_=>False
theorem argsOk_cons{s:Sh}{ss:List Sh}{css:List (List C)}(h:argsOk (s :: ss) css):∃ c cs,css=c :: cs∧s.ok c∧argsOk ss cs:=by
 cases css with
 | nil=>exact h.elim
 | cons c cs=>exact ⟨c,cs,rfl,h.1,h.2⟩
theorem argsOk_nil{css:List (List C)}(h:argsOk [] css):css=[]:=by
 cases css with
 | nil=>rfl
 | cons c cs=>exact h.elim
def argCVs(P:Program):List TypeId→List (List C)→List CV
 | t :: ts,c :: cs=>cvT P t c :: argCVs P ts cs
 | _,_=>[]
def shAll(P:Program):List TypeId→Option (List Sh)
 | []=>some []
 | t :: ts=>match shT P 12 t,shAll P ts with
  | some s,some ss=>some (s :: ss)
  | _,_=>none
section
variable {H:Type} {enc:TypeId×Value→H} {P:Program} {W:World}
theorem args_open{base:Nat}:∀ {ts:List TypeId} {vs:List Value} {ds:List (DataW H)} {ps:List MemPlace} {ss:List Sh},shAll P ts=some ss→DataW.TrodAll enc P W 0 (fun _=>true) true ts vs ds ps →
  (∀ (j:Nat) t v,ts[j]?=some t→vs[j]?=some v→Value.okWide P W .any base t v)→vs.length=ts.length∧ds.length=ts.length∧∃ css,argsOk ss css∧(argCVs P ts css).length=ts.length∧∀ j,j<ts.length→RelCVK (allK W) ((argCVs P ts css).getD j (.c .junk)) (vs.getD j undef):=by
 intro ts
 induction ts with
 | nil =>
  intro vs ds ps ss hs h hok
  cases vs<;>cases ds<;>simp [DataW.TrodAll] at h
  simp only [shAll,Option.some.injEq] at hs
  subst hs
  exact ⟨rfl,rfl,[],trivial,rfl,fun j hj=>by simp at hj⟩
 | cons t ts ih =>
  intro vs ds ps ss hs h hok
  obtain ⟨v,vs',d,ds',p,q,rfl,rfl,rfl,h1,h2⟩:=trodAll_cons h
  simp only [shAll] at hs
  split at hs
  case h_2=>cases hs
  rename_i s ss' hs1 hs2
  cases hs
  obtain ⟨k1,k2,css,k3,k4,k5⟩:=ih hs2 h2 (fun j t' v' ht hv=>hok (j+1) t' v' ht hv)
  obtain ⟨c,l1,l2⟩:=arg_open hs1 (hok 0 t v rfl rfl) h1
  refine ⟨by simp [k1],by simp [k2],c :: css,⟨l1,k3⟩,by simp [argCVs,k4],fun j hj=>?_⟩
  cases j with
  | zero=>exact l2
  | succ j =>
   have:=k5 j (by simpa using hj)
   simpa [argCVs,gE] using this
theorem trodAll_behind(hl:laidOutB P=true){W':World}(hb:Below W.heap.size W W'):∀ {ts:List TypeId} {vs:List Value} {ds:List (DataW H)} {ps:List MemPlace},ts.all (fun t=>P.readableRec t&&decide (t<P.types.size))=true →
  (∀ p∈ps,p.block<W.heap.size)→DataW.TrodAll enc P W 0 (fun _=>true) true ts vs ds ps→∀ sp:Nat→Bool,(∀ p∈ps,sp p.block=true)→DataW.TrodAll enc P W' 0 sp true ts vs ds ps:=by
 intro ts
 induction ts with
 | nil =>
  intro vs ds ps _ _ h sp _
  cases vs<;>cases ds<;>simp [DataW.TrodAll] at h ⊢
  exact h
 | cons t ts ih =>
  intro vs ds ps hr hlt h sp hsp
  obtain ⟨v,vs',d,ds',p,q,rfl,rfl,rfl,h1,h2⟩:=trodAll_cons h
  simp only [List.all_cons,Bool.and_eq_true,decide_eq_true_iff] at hr
  exact ⟨p,q,WideElems.Trod_stays hl hr.1.1 hr.1.2 h1 (fun x hx=>hb.same (hlt x (List.mem_append.2 (.inl hx)))) (fun x hx=>hsp x (List.mem_append.2 (.inl hx))),
   ih (by simpa using hr.2) (fun x hx=>hlt x (List.mem_append.2 (.inr hx))) h2 sp (fun x hx=>hsp x (List.mem_append.2 (.inr hx))),rfl⟩
end
end Go.Sym
namespace Go.Sym
open Go.RowKit
section
variable {P:Program}
theorem run_checkFields_flat{d0 d:Nat}{em:Bool}(ih:∀ t l,flatTy P d0 t=some l→∀ (w:World) (us:List Value),MatchF l us→(Instr.checkKey em d t (wrapV P t us)).run P w=.ok () w)(w:World)(xs:Array Value):
  ∀ (fs:List Field) (off:Nat) (l:List Flat),flatFields (flatTy P d0) P.cellsOf off fs=some l→MatchF l (xs.toList.drop off) →
  (forIn (m:=Sem) fs PUnit.unit fun f _=>do
   if f.name≠ "_" then Instr.checkKey em d f.type (← Go.part f.type xs f.offset)
   pure (ForInStep.yield PUnit.unit)).run P w=.ok PUnit.unit w:=by
 intro fs
 induction fs with
 | nil=>intro off l h h1;simp
 | cons f fs ihf =>
  intro off l h h1
  simp only [flatFields] at h
  split at h
  case isFalse=>cases h
  rename_i hn
  split at h
  case h_2=>cases h
  rename_i lf hlf
  split at h
  case isFalse=>cases h
  rename_i hsz
  simp only [Option.map_eq_some_iff] at h
  obtain ⟨lr,hlr,rfl⟩:=h
  have hxl:=h1.left
  have hxr:=h1.right
  rw [List.drop_drop] at hxr
  have hrec:=ihf (off+lf.length) lr hlr hxr
  have p1:=run_part_flat (P:=P) w (xs:=xs) (off:=off) hlf hsz hxl
  have p3:=ih _ _ hlf w _ hxl
  simp only [List.forIn_cons,Sem.run_bind,hn.1,ne_eq,not_false_eq_true,if_true,hn.2,p1,p3,Result.andThen_ok,Sem.run_pure]
  exact hrec
theorem run_checkItems_flat{d0 d:Nat}{em:Bool}{e:TypeId}{i:TypeInfo}{l:List Flat}(hi:P.info? e=some i)(hl:flatTy P d0 e=some l)(hsz:P.cellsOf e=l.length) 
  (ih:∀ (w:World) (us:List Value),MatchF l us→(Instr.checkKey em d e (wrapV P e us)).run P w=.ok () w) (w:World) (xs:Array Value):∀ (n k:Nat),MatchF (repL l n) (xs.toList.drop (k*l.length)) →
  (forIn (m:=Sem) (List.range' k n) PUnit.unit fun j _=>do
   Instr.checkKey em d e (← Go.part e xs (j*(← sizeOf e)))
   pure (ForInStep.yield PUnit.unit)).run P w=.ok PUnit.unit w:=by
 intro n
 induction n with
 | zero=>intro k h1;simp
 | succ n ihn =>
  intro k h1
  simp only [repL] at h1
  have hxl:=h1.left
  have hxr:=h1.right
  have e:k*l.length+l.length=(k+1)*l.length:=by rw [Nat.add_mul,Nat.one_mul]
  rw [List.drop_drop,e] at hxr
  have hrec:=ihn (k+1) hxr
  have p1:=run_part_flat (P:=P) w (xs:=xs) (off:=k*l.length) hl hsz hxl
  have p3:=ih w _ hxl
  simp only [List.range'_succ,List.forIn_cons,Sem.run_bind,Go.run_sizeOf w hi,hsz,p1,p3,Result.andThen_ok,Sem.run_pure]
  exact hrec
theorem chkFl_of(em:Bool)(k:Nat):∀ (d:Nat) (t:TypeId) (l:List Flat),flatTy P d t=some l→∀ (w:World) (us:List Value),MatchF l us→(Instr.checkKey em (k+d) t (wrapV P t us)).run P w=.ok () w
 | 0,t,l,h=>by simp [flatTy] at h
 | d+1,t,l,h=>by
  intro w us h1
  unfold flatTy at h
  have one:∀ f,l=[f]→∃ u,us=[u]∧Flat.val f u:=by
   intro f hf
   subst hf
   match us,h1.1 with
   | [u],_=>exact ⟨u,rfl,h1.2 0 f u rfl rfl⟩
  rw [show k+(d+1)=(k+d)+1 from rfl,Instr.checkKey]
  split at h
  ·rename_i hu
   obtain ⟨u,rfl,⟨a,rfl⟩⟩:=one _ (Option.some.inj h).symm
   simp [Sem.run_bind,run_underlying hu,wrapV,isAggT,hu]
  ·rename_i q hu
   obtain ⟨u,rfl,⟨a,rfl⟩⟩:=one _ (Option.some.inj h).symm
   simp [Sem.run_bind,run_underlying hu,wrapV,isAggT,hu]
  ·rename_i hu
   obtain ⟨u,rfl,⟨a,rfl⟩⟩:=one _ (Option.some.inj h).symm
   simp [Sem.run_bind,run_underlying hu,wrapV,isAggT,hu]
  ·rename_i fs hu
   split at h
   case isFalse=>cases h
   have hag:isAggT P t=true:=by simp [isAggT,hu]
   simp only [wrapV,hag,if_true,Sem.run_bind,run_underlying hu,Result.andThen_ok]
   rw [← Array.forIn_toList]
   have:=run_checkFields_flat (P:=P) (em:=em) (fun t l h=>chkFl_of em k d t l h) w us.toArray fs.toList 0 l h (by simpa using h1)
   simp at this ⊢
   simp [this]
  ·rename_i n e hu
   split at h
   case h_2=>cases h
   rename_i le hle
   split at h
   case isFalse=>cases h
   rename_i hsz
   cases h
   obtain ⟨i,hi⟩:=flatTy_info hle
   have hag:isAggT P t=true:=by simp [isAggT,hu]
   simp only [wrapV,hag,if_true,Sem.run_bind,run_underlying hu,Result.andThen_ok]
   simp only [Std.Legacy.Range.forIn_eq_forIn_range',Std.Legacy.Range.size,Nat.sub_zero,Nat.add_one_sub_one,Nat.div_one]
   have:=run_checkItems_flat (P:=P) (em:=em) hi hle hsz (chkFl_of em k d e le hle) w us.toArray n 0 (by simpa using h1)
   simp at this ⊢
   simp [this]
  ·cases h
theorem bytes_beq(a b:ByteArray):(a==b)=(a.toList==b.toList):=by
 rw [ByteArray.toList_eq,ByteArray.toList_eq]
 show (a.data==b.data)=_
 rw [Bool.eq_iff_iff,beq_iff_eq,beq_iff_eq]
 exact ⟨fun h=>by rw [h],fun h=>Array.toList_inj.1 h⟩
theorem keyTy_of(d:Nat){t:TypeId}{fs:List Flat}(h:flatTy P d t=some fs)(hd:d≤10000){kagg:Bool}(ha:isAggT P t=kagg):KeyTy P t kagg fs:=by
 intro w us hu h1
 have hM:MatchF fs us:=⟨hu,h1⟩
 have hmk:mkV kagg us=wrapV P t us:=by
  subst ha
  unfold mkV wrapV
  cases isAggT P t with
  | true=>rfl
  | false=>cases us<;>rfl
 have hkv:∀ e:MapEntry,keyIs kagg fs e→e.key=wrapV P t e.key.cells.toList∧MatchF fs e.key.cells.toList:=by
  intro e he
  refine ⟨?_,by simpa using he.2.1,he.2.2⟩
  have ho:=he.1
  subst ha
  unfold wrapV
  generalize hk:isAggT P t=kagg at ho
  cases kagg with
  | true=>obtain ⟨arr,h⟩:=ho;rw [h];simp [Value.cells]
  | false=>simp [oneOr_cells ho]
 have heq:∀ e:MapEntry,keyIs kagg fs e→(Op.equal t (mkV kagg us) e.key).run P w=.ok (eqVals us e.key.cells.toList) w:=by
  intro e he
  obtain ⟨g1,g2⟩:=hkv e he
  have:=eqFl_of (P:=P) (10000 - d) d t fs h w us _ hM g2
  rw [show 10000 - d+d=10000 by omega,← g1,← hmk] at this
  exact this
 obtain ⟨kind,hkind⟩:∃ kind,P.underlying t=some kind:=by
  cases d with
  | zero=>simp [flatTy] at h
  | succ d =>
   unfold flatTy at h
   cases hu:P.underlying t with
   | none=>simp [hu] at h
   | some k=>exact ⟨k,rfl⟩
 have hsame:∀ e:MapEntry,keyIs kagg fs e→Instr.sameNow kind (mkV kagg us) e.key=none∨Instr.sameNow kind (mkV kagg us) e.key=some (eqVals us e.key.cells.toList):=by
  intro e he
  cases d with
  | zero=>simp [flatTy] at h
  | succ d =>
   unfold flatTy at h
   simp only [hkind] at h
   have one:∀ f,fs=[f]→kagg=false→(∃ u,us=[u]∧Flat.val f u)∧∃ v,e.key=v∧Flat.val f v∧e.key.cells.toList=[v]:=by
    intro f hf hka
    subst hf hka
    constructor
    ·match us,hu with
     | [u],_=>exact ⟨u,rfl,h1 0 f u rfl rfl⟩
    ·have:=he.2.2 0 f
     rw [oneOr_cells he.1] at this ⊢
     exact ⟨_,rfl,this _ rfl rfl,rfl⟩
   split at h
   ·rename_i hk2
    cases hk2
    obtain ⟨⟨u,rfl,⟨a,rfl⟩⟩,v,hv,⟨b,rfl⟩,hc⟩:=one _ (Option.some.inj h).symm (by rw [← ha];simp [isAggT,hkind])
    rw [hc,hv]
    subst ha
    simp [mkV,isAggT,hkind,Instr.sameNow,eqVals]
   ·rename_i q hk2
    cases hk2
    obtain ⟨⟨u,rfl,⟨a,rfl⟩⟩,v,hv,⟨b,rfl⟩,hc⟩:=one _ (Option.some.inj h).symm (by rw [← ha];simp [isAggT,hkind])
    rw [hc,hv]
    subst ha
    simp [mkV,isAggT,hkind,Instr.sameNow,eqVals]
   ·rename_i hk2
    cases hk2
    obtain ⟨⟨u,rfl,⟨a,rfl⟩⟩,v,hv,⟨b,rfl⟩,hc⟩:=one _ (Option.some.inj h).symm (by rw [← ha];simp [isAggT,hkind])
    rw [hc,hv]
    subst ha
    simp [mkV,isAggT,hkind,Instr.sameNow,eqVals,bytes_beq]
   ·rename_i fs' hk2
    cases hk2
    left
    simp [Instr.sameNow]
   ·rename_i n e' hk2
    cases hk2
    left
    simp [Instr.sameNow]
   ·cases h
 have ask:∀ (es:List MapEntry) (k:Nat),(∀ (j:Nat) (e:MapEntry),es[j]?=some e→keyIs kagg fs e∧eqVals us e.key.cells.toList=false) →
   (Instr.findAsking t (mkV kagg us) es k).run P w=.ok none w∧(Instr.findNow kind (mkV kagg us) es k=none∨Instr.findNow kind (mkV kagg us) es k=some none):=by
  intro es
  induction es with
  | nil=>intro k _;exact ⟨by simp [Instr.findAsking],.inr rfl⟩
  | cons e es ih =>
   intro k hall
   obtain ⟨g1,g2⟩:=hall 0 e rfl
   obtain ⟨r1,r2⟩:=ih (k+1) fun j e' he'=>hall (j+1) e' (by simpa using he')
   refine ⟨by simp only [Instr.findAsking,Sem.run_bind,heq e g1,g2,Result.andThen_ok];simpa using r1,?_⟩
   rcases hsame e g1 with h | h
   ·left;simp [Instr.findNow,h]
   ·rw [g2] at h;simpa [Instr.findNow,h] using r2
 have ask2:∀ (es:List MapEntry) (i k:Nat) (e:MapEntry),es[i]?=some e→(∀ (j:Nat) (e':MapEntry),j<i→es[j]?=some e'→keyIs kagg fs e'∧eqVals us e'.key.cells.toList=false)→keyIs kagg fs e→eqVals us e.key.cells.toList=true →
   (Instr.findAsking t (mkV kagg us) es k).run P w=.ok (some (k+i,e.val)) w∧(Instr.findNow kind (mkV kagg us) es k=none∨Instr.findNow kind (mkV kagg us) es k=some (some (k+i,e.val))):=by
  intro es
  induction es with
  | nil=>intro i k e he;simp at he
  | cons e0 es ih =>
   intro i k e he hall g1 g2
   cases i with
   | zero =>
    simp only [List.getElem?_cons_zero,Option.some.injEq] at he
    subst he
    refine ⟨by simp [Instr.findAsking,Sem.run_bind,heq e0 g1,g2,Result.andThen_ok],?_⟩
    rcases hsame e0 g1 with h | h
    ·left;simp [Instr.findNow,h]
    ·rw [g2] at h;right;simp [Instr.findNow,h]
   | succ i =>
    obtain ⟨p1,p2⟩:=hall 0 e0 (by omega) rfl
    obtain ⟨r1,r2⟩:=ih i (k+1) e (by simpa using he) (fun j e' hj he'=>hall (j+1) e' (by omega) (by simpa using he')) g1 g2
    rw [show k+1+i=k+(i+1) by omega] at r1 r2
    refine ⟨by simp only [Instr.findAsking,Sem.run_bind,heq e0 p1,p2,Result.andThen_ok];simpa using r1,?_⟩
    rcases hsame e0 p1 with h | h
    ·left;simp [Instr.findNow,h]
    ·rw [p2] at h;simpa [Instr.findNow,h] using r2
 refine ⟨fun em=>?_,fun es hall=>?_,fun es i e he hall g1 g2=>?_⟩
 ·have:=chkFl_of (P:=P) em (10000 - d) d t fs h w us hM
  rw [show 10000 - d+d=10000 by omega,← hmk] at this
  exact this
 ·obtain ⟨r1,r2⟩:=ask es 0 hall
  simp only [Instr.findKey,Sem.run_bind,run_underlying hkind,Result.andThen_ok]
  rcases r2 with h | h
  ·rw [h];exact r1
  ·rw [h];rfl
 ·obtain ⟨r1,r2⟩:=ask2 es i 0 e he hall g1 g2
  rw [Nat.zero_add] at r1 r2
  simp only [Instr.findKey,Sem.run_bind,run_underlying hkind,Result.andThen_ok]
  rcases r2 with h | h
  ·rw [h];exact r1
  ·rw [h];rfl
end
end Go.Sym
namespace Go.Sym
open Go.RowKit
variable {P:Program} {B:Base P}
structure Pg where
 g:Bool
 p:Prop
 h:p
abbrev pu{p:Prop}(h:p):Pg:=⟨false,p,h⟩
abbrev pg{b:Bool}{p:Prop}(h:b=true→p):Pg:=⟨true,b=true→p,h⟩
def pickA:List Ask→List Pg→List Prop
 | [],[]=>[]
 | a :: qs,x :: xs=>(match x.g with | true=>a.whole | false=>a.p) :: pickA qs xs
 | _,_=>[False]
theorem allA_pick:∀ {qs:List Ask} {xs:List Pg},pickA qs xs=xs.map Pg.p→allA qs
 | [],_,_=>trivial
 | a :: qs,[],h=>by simp [pickA] at h
 | a :: qs,⟨g,p,hp⟩ :: xs,h=>by
  simp only [pickA,List.map_cons,List.cons.injEq] at h
  obtain ⟨h1,h2⟩:=h
  refine ⟨fun hg=>?_,allA_pick h2⟩
  cases g with
  | true =>
   have h1:a.whole=p:=h1
   rw [← h1] at hp
   exact hp hg
  | false =>
   have h1:a.p=p:=h1
   rw [← h1] at hp
   exact hp
theorem asked_pick {x : Option (S × List Ask)} (l : List Pg) (e : pickA (asks x) l = l.map Pg.p) : Asked x := ⟨allA_pick e⟩
theorem rg{s:S}{id:Nat}{ops:Array Oper}{draw:Bool}{cs:List Code}{Q:Exit→S→Prop}(hmix:P.follows .mixedOrders=true)(hs:List (Nat×Hint))(l:List Pg)(e:pickA (asks (evalRegion P ops draw hs s)) l=l.map Pg.p) 
  (h:Run P B (nextS (evalRegion P ops draw hs s)) cs Q) (hn:elderAny hs=false:=by rfl):Run P B s (.region id ops draw :: cs) Q:=run_reg hs hmix (asked_pick l e) h hn
end Go.Sym
namespace Go.Sym
open Go.RowKit
inductive Fl (σ ρ:Type) where
 | nx (x:σ)
 | br (x:σ)
 | rt (r:ρ)
def Fl.fin{σ τ:Type}(k:σ→τ):Fl σ τ→τ
 | .nx x=>k x
 | .br x=>k x
 | .rt r=>r
def runL{σ ρ:Type}(bd:Nat→σ→Fl σ ρ):Nat→Nat→σ→Fl σ ρ
 | 0,_,x=>.nx x
 | k+1,i,x=>match bd i x with
  | .nx y=>runL bd k (i+1) y
  | .br y=>.br y
  | .rt r=>.rt r
def runW{σ ρ:Type}(bd:σ→Fl σ ρ):Nat→σ→Fl σ ρ
 | 0,x=>.br x
 | k+1,x=>match bd x with
  | .nx y=>runW bd k y
  | .br y=>.br y
  | .rt r=>.rt r
theorem runL_step{σ ρ:Type}{bd:Nat→σ→Fl σ ρ}{n i:Nat}{x:σ}(hi:i<n):runL bd (n - i) i x=(match bd i x with
  | .nx y=>runL bd (n - (i+1)) (i+1) y
  | .br y=>.br y
  | .rt r=>.rt r):=by
 obtain ⟨k,hk⟩:∃ k,n - i=k+1:=⟨n - i - 1,by omega⟩
 rw [hk,show n - (i+1)=k by omega]
 rfl
theorem fin_rt{σ τ:Type}{bd:Nat→σ→Fl σ τ}{n i:Nat}{x0 x:σ}{k:σ→τ}{t l:τ}(e:l=(runL bd n 0 x0).fin k)(hr:runL bd n 0 x0=runL bd (n - i) i x)(hi:i<n)(hb:bd i x=.rt t):l=t:=by
 rw [e,hr,runL_step hi,hb];rfl
theorem fin_nx{σ τ:Type}{bd:Nat→σ→Fl σ τ}{n:Nat}{x0 x:σ}{k:σ→τ}{l:τ}(e:l=(runL bd n 0 x0).fin k)(hr:runL bd n 0 x0=runL bd (n - n) n x):l=k x:=by
 rw [e,hr,Nat.sub_self];rfl
theorem finw_rt{σ τ:Type}{bd:σ→Fl σ τ}{m k':Nat}{x0 x:σ}{k:σ→τ}{t l:τ}(e:l=(runW bd m x0).fin k)(hr:runW bd m x0=runW bd (k'+1) x)(hb:bd x=.rt t):l=t:=by
 rw [e,hr,runW,hb];rfl
theorem bT{α:Type}{b:Bool}{x y:α}(h:b=true):(bif b then x else y)=x:=by rw [h];rfl
theorem bF{α:Type}{b:Bool}{x y:α}(h:b=false):(bif b then x else y)=y:=by rw [h];rfl
variable {P:Program} {B:Base P}
theorem run_mono:∀ (l:List Code) {s:S} {Q1 Q2:Exit→S→Prop},(∀ e s',Q1 e s'→Q2 e s')→Run P B s l Q1→Run P B s l Q2:=fun l=>by
 induction l with
 | nil=>intro s Q1 Q2 h hr;exact h _ _ hr
 | cons c l ih=>intro s Q1 Q2 h hr;exact tri_mono hr fun e s' hq=>by cases e<;>first | exact ih h hq | exact h _ _ hq
theorem rForX{σ ρ:Type}{st:S}{id idH idI b1:Nat}{opsH opsI:Array Oper}{c:Operand}{lp body:Code}{cs:List Code}{Q:Exit→S→Prop}(n:Nat)(s:Nat→Int→σ→S)(bd:Nat→σ→Fl σ ρ)(J:Nat→σ→Prop)(x0:σ) 
  (hfl:flatC lp []=[.region idH opsH false,.cond c .skip (.exit id),.block b1 body,.region idI opsI false]) (hmix:P.follows .mixedOrders=true)
  (hw:Wk P st (s 0 0 x0)) (h0:J 0 x0)
  (hH:∀ (i:Nat) (x:σ),asks (evalRegion P opsH false [] (s i i x))=[]∧(nextS (evalRegion P opsH false [] (s i i x))).ev [] c=some (.v (.c (.bool (decide ((i:Int)<(n:Int)))))))
  (hbody:∀ i x,i<n→J i x→runL bd n 0 x0=runL bd (n - i) i x→Run P B (nextS (evalRegion P opsH false [] (s i i x))) (flatC body []) (fun e s'=>match e with
   | .normal=>∃ y s2,(asks (evalRegion P opsI false [] s')=[]∧nextS (evalRegion P opsI false [] s')=s2)∧Wk P s2 (s (i+1) ((i+1:Nat):Int) y)∧J (i+1) y∧bd i x=.nx y
   | .exit k=>match Nat.beq k b1 with
    | true=>∃ y s2,(asks (evalRegion P opsI false [] s')=[]∧nextS (evalRegion P opsI false [] s')=s2)∧Wk P s2 (s (i+1) ((i+1:Nat):Int) y)∧J (i+1) y∧bd i x=.nx y
    | false=>match Nat.beq k id with
     | true=>Run P B s' cs Q
     | false=>Q (.exit k) s'
   | e=>Q e s'))
  (hend:∀ x,J n x→runL bd n 0 x0=runL bd (n - n) n x→Run P B (nextS (evalRegion P opsH false [] (s n n x))) cs Q):Run P B st (.block id (.loop lp) :: cs) Q:=by
 refine rBlock ?_
 show Run P B st [.loop lp] (blockR P B id cs Q)
 refine rLoop (fun i:Nat×σ=>s i.1 i.1 i.2) (fun i=>i.1≤n∧J i.1 i.2∧runL bd n 0 x0=runL bd (n - i.1) i.1 i.2) (fun i=>n - i.1) (0,x0) hw ⟨Nat.zero_le _,h0,rfl⟩ ?_
 rintro ⟨i,x⟩ ⟨hi,hI,hr⟩
 simp only at hi hI hr
 rw [hfl]
 obtain ⟨h1,h2⟩:=hH i x
 refine reg0 hmix h1 ?_
 refine rCond _ h2 (fun hc=>?_) (fun hc=>?_)
 ·have hc:i<n:=by have:=of_decide_eq_true hc;omega
  refine rBlock ?_
  have next:∀ s',(∃ y s2,(asks (evalRegion P opsI false [] s')=[]∧nextS (evalRegion P opsI false [] s')=s2)∧Wk P s2 (s (i+1) ((i+1:Nat):Int) y)∧J (i+1) y∧bd i x=.nx y) →
    Run P B s' [.region idI opsI false] (loopR P (fun i:Nat×σ=>s i.1 i.1 i.2) (fun i=>i.1≤n∧J i.1 i.2∧runL bd n 0 x0=runL bd (n - i.1) i.1 i.2) (fun i=>n - i.1) (i,x) (blockR P B id cs Q)):=fun s' ⟨y,s2,⟨ha,hs⟩,hw2,hI2,hb⟩=>by
   refine reg0 hmix ha ?_
   rw [hs]
   exact run_nil (loopR_next (i+1,y) hw2 ⟨hc,hI2,by rw [hr,runL_step hc,hb]⟩ (by show n - (i+1)<n - i;omega))
  refine run_mono _ (fun e s' hq=>?_) (hbody i x hc hI hr)
  cases e with
  | normal=>exact next s' hq
  | exit k =>
   simp only at hq
   show (match Nat.beq k b1 with
    | true=>_
    | false=>_)
   cases hk:Nat.beq k b1 with
   | true=>rw [hk] at hq;exact next s' hq
   | false =>
    rw [hk] at hq
    show (match Nat.beq k id with
     | true=>_
     | false=>_)
    cases hk2:Nat.beq k id with
    | true=>rw [hk2] at hq;exact hq
    | false=>rw [hk2] at hq;exact hq
  | _=>exact hq
 ·have hc:i=n:=by have:=of_decide_eq_false hc;omega
  subst hc
  exact run_exit (loopR_exit (blockR_exit (hend x hI hr)))
theorem wrap_succ2{i n:Nat}(hi:i<n)(hn:n≤9223372036854775807):IntKind.i64.wrap ((i:Int)+1)=((i+1:Nat):Int):=by
 rw [IntKind.wrap_i64];omega
theorem forX_nx{σ ρ:Type}{opsI:Array Oper}{s':S}{i n:Nat}{Ii:σ→Prop}{bi:Fl σ ρ}(s:Nat→Int→σ→S)(y:σ)(hi:i<n)(hn:n≤9223372036854775807)(h1:asks (evalRegion P opsI false [] s')=[])(h2:Wk P (nextS (evalRegion P opsI false [] s')) (s (i+1) (IntKind.i64.wrap ((i:Int)+1)) y))(hI:Ii y)(hb:bi=.nx y):
  ∃ y s2,(asks (evalRegion P opsI false [] s')=[]∧nextS (evalRegion P opsI false [] s')=s2)∧Wk P s2 (s (i+1) ((i+1:Nat):Int) y)∧Ii y∧bi=.nx y:=⟨y,_,⟨h1,rfl⟩,wrap_succ2 hi hn▸h2,hI,hb⟩
theorem rWhile{σ ρ:Type}{st:S}{id:Nat}{lp:Code}{cs:List Code}{Q:Exit→S→Prop}(m:Nat)(s:σ→S)(bd:σ→Fl σ ρ)(J:σ→Prop)(μ:σ→Nat)(x0:σ) 
  (hw:Wk P st (s x0)) (h0:J x0) (hm:μ x0<m)
  (hbody:∀ k x,J x→runW bd m x0=runW bd (k+1) x→Run P B (s x) (flatC lp []) (fun e s'=>match e with
   | .normal=>∃ y,Wk P s' (s y)∧J y∧bd x=.nx y∧μ y<μ x
   | .exit k=>match Nat.beq k id with
    | true=>Run P B s' cs Q
    | false=>Q (.exit k) s'
   | e=>Q e s')):Run P B st (.block id (.loop lp) :: cs) Q:=by
 refine rBlock ?_
 show Run P B st [.loop lp] (blockR P B id cs Q)
 refine rLoop s (fun x=>J x∧∃ k,μ x<k∧runW bd m x0=runW bd k x) μ x0 hw ⟨h0,m,hm,rfl⟩ ?_
 rintro x ⟨hJ,k,hk,hr⟩
 obtain ⟨k,rfl⟩:∃ k',k=k'+1:=⟨k - 1,by omega⟩
 refine run_mono _ (fun e s' hq=>?_) (hbody k x hJ hr)
 cases e with
 | normal =>
  obtain ⟨y,hwy,hJy,hb,hlt⟩:=hq
  exact loopR_next y hwy ⟨hJy,k,by omega,by rw [hr,runW,hb]⟩ hlt
 | exit j =>
  simp only at hq
  show (match Nat.beq j id with
   | true=>_
   | false=>_)
  cases hj:Nat.beq j id with
  | true=>rw [hj] at hq;exact hq
  | false=>rw [hj] at hq;exact hq
 | _=>exact hq
def elM{α:Type}(enc:α→List C)(z:α)(l:List α)(i:Nat):List C:=enc (l.getD i z)
theorem elM_row{α:Type}(enc:α→List C)(z:α)(l:List α):∀ i,i<l.length→elM enc z l i=(l.map enc).getD i []:=fun i hi=>by
 simp [elM,gE,hi]
theorem len_row{α:Type}(enc:α→List C)(l:List α):l.length=(l.map enc).length:=by simp
end Go.Sym
namespace Go.Sym
open Go.RowKit
variable {P:Program}
def encI(x:Int):List C:=[cI x]
def encB(x:Bool):List C:=[.bool x]
def encS(x:ByteArray):List C:=[.str x]
def encL{α:Type}(sz:Nat)(enc:α→List C)(z:α)(l:List α):List C:=[.lst sz l.length (elM enc z l)]
theorem rowW{α:Type}{s:S}{enc:α→List C}(F:Nat→List (List C)→S)(n:Nat)(css:List (List C))(y:List α)(hn:n=y.length)(hc:css=y.map enc)(h:Wk P s (F n css)):Wk P s (F y.length (y.map enc)):=by
 subst hn;subst hc;exact h
theorem rowF{α:Type}{enc:α→List C}{z:α}{css:List (List C)}{y:List α}(hc:css=y.map enc):∀ i,i<y.length→elM enc z y i=css.getD i []:=by
 subst hc;exact elM_row enc z y
theorem rowN{α:Type}{enc:α→List C}{n:Nat}{css:List (List C)}{y:List α}(hn:n=y.length)(hc:css=y.map enc):n=css.length:=by
 subst hn;subst hc;simp
theorem elM_list{α:Type}(enc:α→List C)(z:α)(l:List α):(List.range l.length).map (elM enc z l)=l.map enc:=by
 apply List.ext_getElem?
 intro i
 by_cases h:i<l.length
 ·simp [h,elM,gE]
 ·simp [h]
theorem CVle.nil(sz:Nat)(f:Nat→List C):CVle (.c .nil) (.c (.lst sz 0 f)):=fun K v h=>by
 obtain ⟨h1,h2⟩:=h
 cases h1
 exact ⟨RelK.lst0 sz f,rfl⟩
end Go.Sym
namespace Go.Sym
def imax(a b:Int):Int:=if b>a then b else a
def imin(a b:Int):Int:=if b<a then b else a
end Go.Sym
namespace Go.Sym
theorem rowGet{α:Type}{enc:α→List C}{z:α}{n:Nat}{css:List (List C)}{y:List α}{i:Nat}(hn:n=y.length)(hc:css=y.map enc)(hi:i<n):(n=css.length∧i<n)∧css.getD i []=enc (y.getD i z):=by
 subst hn;subst hc
 exact ⟨⟨by simp,hi⟩,(elM_row enc z y i hi).symm⟩
theorem rowSn{α:Type}{n:Nat}{y:List α}{i:Nat}{v:α}(hn:n=y.length):n=(y.set i v).length:=by simpa using hn
theorem rowS{α:Type}{enc:α→List C}{css:List (List C)}{y:List α}{i:Nat}{v:α}{cs:List C}(hc:css=y.map enc)(h:cs=enc v):css.set i cs=(y.set i v).map enc:=by
 subst hc;subst h;simp [List.map_set]
theorem rowRn{α:Type}(n:Nat)(z:α):n=(List.replicate n z).length:=by simp
theorem rowR{α:Type}{enc:α→List C}{cs:List C}(n:Nat)(z:α)(h:cs=enc z):List.replicate n cs=(List.replicate n z).map enc:=by subst h;simp
theorem fin4(p:Nat→Prop)(h0:p 0)(h1:p 1)(h2:p 2)(h3:p 3)(j:Nat)(hj:j<4):p j:=by
 match j,hj with
 | 0,_=>exact h0
 | 1,_=>exact h1
 | 2,_=>exact h2
 | 3,_=>exact h3
end Go.Sym
namespace Go.Sym
variable {P:Program} {B:Base P}
def Real(c:C):Prop:=∃ K u,RelK K c u
def RealV:CV→Prop
 | .c x=>Real x
 | .agg cs=>∀ j,j<cs.length→Real (cs.getD j .junk)
 | .pagg _=>True
theorem Real.len{sz n:Nat}{f:Nat→List C}(h:Real (.lst sz n f)):n≤9223372036854775807:=by
 obtain ⟨K,u,h⟩:=h;exact h.lst_le
theorem Real.size{s:ByteArray}(h:Real (.str s)):s.size≤9223372036854775807:=by
 obtain ⟨K,u,h⟩:=h;exact h.str_le
theorem Real.el{sz n:Nat}{f:Nat→List C}(h:Real (.lst sz n f))(i j:Nat)(hi:i<n)(hj:j<sz):Real ((f i).getD j .junk):=by
 obtain ⟨K,u,h⟩:=h
 cases h with
 | lst0=>omega
 | lst1=>omega
 | lst _ _ _ b off cap arr T fz g hK hg hl hr ho hcap hmx=>exact ⟨K,_,hr i j hi hj⟩
theorem Real.at{cs:List C}{off:Nat}(h:Real (.kptr cs off))(j:Nat)(hj:j<cs.length):Real (cs.getD j .junk):=by
 obtain ⟨K,u,h⟩:=h
 cases h with
 | kptr _ _ b arr T fz hK hs hr hone=>exact ⟨K,_,hr j hj⟩
theorem Real.kel{sz n i off:Nat}{f:Nat→List C}(h:Real (.kel sz n f i off))(j:Nat)(hj:j<sz):Real ((f i).getD j .junk):=by
 obtain ⟨K,u,h⟩:=h
 cases h with
 | kel _ _ _ _ _ b off arr T fz g hK hg hl hr ho hi=>exact ⟨K,_,hr i j hi hj⟩
theorem RelCVK.real{K:Know}{x:CV}{u:Value}(h:RelCVK K x u):RealV x:=by
 cases x with
 | c x=>exact ⟨K,u,h.1⟩
 | agg cs =>
  obtain ⟨arr,_,hl⟩:=h
  exact fun j hj=>⟨K,_,(hl.2 j hj).1⟩
 | pagg cs=>trivial
theorem rReal{s:S}{cs:List Code}{Q:Exit→S→Prop}(k:Nat)(x:CV)(ht:s.t[k]?=some (.b (.v x)))(hi:x.isImm=true)(h:RealV x→Run P B s cs Q)(hne:cs≠[]):Run P B s cs Q:=by
 cases cs with
 | nil=>exact absurd rfl hne
 | cons c cs =>
  intro E a w hs
  exact h (RelCV.imm hi (hs.slot k _ ht)).real E a w hs
theorem rRealM{s:S}{cs:List Code}{Q:Exit→S→Prop}(n:Nat)(xs:List C)(ht:s.m[n]?=some (some (.cells xs)))(h:(∀ j,j<xs.length→Real (xs.getD j .junk))→Run P B s cs Q)(hne:cs≠[]):Run P B s cs Q:=by
 cases cs with
 | nil=>exact absurd rfl hne
 | cons c cs =>
  intro E a w hs
  obtain ⟨b,arr,T,_,_,hl⟩:=hs.core.cells ht
  exact h (fun j hj=>⟨E.K,_,(hl.2 j hj).1⟩) E a w hs
end Go.Sym
namespace Go.Sym
theorem rowA{α:Type}{enc:α→List C}{z:α}{css:List (List C)}{y:List α}(hc:css=y.map enc)(l:List α):css++(List.range l.length).map (elM enc z l)=(y++l).map enc:=by
 subst hc;rw [elM_list,List.map_append]
theorem rowAn{α:Type}{n:Nat}{y:List α}(hn:n=y.length)(l:List α):n+l.length=(y++l).length:=by subst hn;simp
theorem rowB{α:Type}{enc:α→List C}{css css2:List (List C)}{y y2:List α}(hc:css=y.map enc)(hc2:css2=y2.map enc):css++css2=(y++y2).map enc:=by
 subst hc;subst hc2;rw [List.map_append]
theorem rowBn{α:Type}{n k:Nat}{y y2:List α}(hn:n=y.length)(hk:k=y2.length):n+k=(y++y2).length:=by subst hn;subst hk;simp
theorem q1{a b:Bool}:((a&&b)=true)=(a=true∧b=true):=Bool.and_eq_true a b
theorem q2{a b:Bool}:((a||b)=true)=(a=true∨b=true):=Bool.or_eq_true a b
theorem q3{a b:Bool}:((a&&b)=false)=(a=false∨b=false):=by cases a<;>cases b<;>simp
theorem q4{a b:Bool}:((a||b)=false)=(a=false∧b=false):=by cases a<;>cases b<;>simp
theorem q5{a:Bool}:((!a)=true)=(a=false):=Bool.not_eq_true' a
theorem q6{a:Bool}:((!a)=false)=(a=true):=Bool.not_eq_false' a
theorem q7{p:Prop}[Decidable p]:(decide p=true)=p:=decide_eq_true_eq
theorem q8{p:Prop}[Decidable p]:(decide p=false)=¬ p:=by simp
theorem q9{a b:Int}:((a==b)=true)=(a=b):=by simp
theorem q10{a b:Int}:((a==b)=false)=(a≠b):=by simp
theorem q11{a b:Int}:((a != b)=true)=(a≠b):=by simp
theorem q12{a b:Int}:((a != b)=false)=(a=b):=by simp
end Go.Sym
namespace Go.Sym
section
variable {κ ν:Type}
def encM(ek:κ→List C)(ev:ν→List C)(l:List (κ×ν)):List (List C×List C):=l.map fun e=>(ek e.1,ev e.2)
def mgetB(eq:κ→κ→Bool)(l:List (κ×ν))(k:κ):Bool:=l.any fun e=>eq k e.1
def mgetD(eq:κ→κ→Bool)(z:ν):List (κ×ν)→κ→ν
 | [],_=>z
 | e :: l,k=>bif eq k e.1 then e.2 else mgetD eq z l k
def mput(eq:κ→κ→Bool):List (κ×ν)→κ→ν→List (κ×ν)
 | [],k,v=>[(k,v)]
 | e :: l,k,v=>bif eq k e.1 then (e.1,v) :: l else e :: mput eq l k v
structure KeyEq (ek:κ→List C) (eq:κ→κ→Bool):Prop where
 cmp:∀ a b,eqCells (ek a) (ek b)=some (eq a b)
 same:∀ a b,eq a b=true→ek b=ek a
theorem KeyNo.cons{ents:List (List C×List C)}{kc:List C}{e:List C×List C}(h:eqCells kc e.1=some false)(h2:KeyNo ents kc):KeyNo (e :: ents) kc:=fun j hj=>by
 cases j with
 | zero=>exact h
 | succ j=>exact h2 j (by simpa using hj)
theorem KeyAt.cons{ents:List (List C×List C)}{kc:List C}{e:List C×List C}{i:Nat}(h:eqCells kc e.1=some false)(h2:KeyAt ents kc i):KeyAt (e :: ents) kc (i+1):=
 ⟨by have:=h2.lt;simp;omega,fun j hj=>by
  cases j with
  | zero=>exact h
  | succ j=>exact h2.no j (by omega),h2.at'⟩
theorem look_of{ek:κ→List C}{ev:ν→List C}{eq:κ→κ→Bool}(hk:KeyEq ek eq)(z:ν):∀ (l:List (κ×ν)) (k:κ),Look (encM ek ev l) (ek k) (ev z) (mgetB eq l k) (ev (mgetD eq z l k))
 | [],k=>.inr ⟨rfl,fun j hj=>absurd hj (Nat.not_lt_zero _),rfl⟩
 | e :: l,k=>by
  have hc:=hk.cmp k e.1
  have ih:=look_of (ev:=ev) hk z l k
  cases h:eq k e.1 with
  | true =>
   refine .inl ⟨by simp [mgetB,h],0,⟨by simp [encM],fun j hj=>by omega,hk.same k e.1 h⟩,?_⟩
   show ev e.2=_
   rw [mgetD,h];rfl
  | false =>
   rw [h] at hc
   have e1:mgetB eq (e :: l) k=mgetB eq l k:=by simp [mgetB,h]
   have e2:mgetD eq z (e :: l) k=mgetD eq z l k:=by rw [mgetD,h];rfl
   rw [e1,e2]
   rcases ih with ⟨hb,i,hat,hv⟩ | ⟨hb,hno,hv⟩
   ·exact .inl ⟨hb,i+1,KeyAt.cons (e:=(ek e.1,ev e.2)) hc hat,hv⟩
   ·exact .inr ⟨hb,KeyNo.cons (e:=(ek e.1,ev e.2)) hc hno,hv⟩
theorem put_of{ek:κ→List C}{ev:ν→List C}{eq:κ→κ→Bool}(hk:KeyEq ek eq):∀ (l:List (κ×ν)) (k:κ) (v:ν),Put (encM ek ev l) (ek k) (ev v) (encM ek ev (mput eq l k v))
 | [],k,v=>.inl ⟨fun j hj=>absurd hj (Nat.not_lt_zero _),rfl⟩
 | e :: l,k,v=>by
  have hc:=hk.cmp k e.1
  have ih:=put_of (ev:=ev) hk l k v
  cases h:eq k e.1 with
  | true =>
   refine .inr ⟨0,⟨by simp [encM],fun j hj=>by omega,hk.same k e.1 h⟩,?_⟩
   rw [mput,h]
   simp [encM,setEnt]
  | false =>
   rw [h] at hc
   have e2:mput eq (e :: l) k v=e :: mput eq l k v:=by rw [mput,h];rfl
   rw [e2]
   rcases ih with ⟨hno,hv⟩ | ⟨i,hat,hv⟩
   ·refine .inl ⟨KeyNo.cons (e:=(ek e.1,ev e.2)) hc hno,?_⟩
    show (ek e.1,ev e.2) :: encM ek ev (mput eq l k v)=_
    rw [hv];rfl
   ·refine .inr ⟨i+1,KeyAt.cons (e:=(ek e.1,ev e.2)) hc hat,?_⟩
    show (ek e.1,ev e.2) :: encM ek ev (mput eq l k v)=_
    rw [hv];simp [setEnt,encM]
def eqI(a b:Int):Bool:=a==b
def eqS(a b:ByteArray):Bool:=a.toList==b.toList
theorem bytes_toList{a b:ByteArray}(h:(a.toList==b.toList)=true):b=a:=by
 have h2:(a==b)=true:=by rw [bytes_beq];exact h
 have h3:a.data=b.data:=by
  have:(a.data==b.data)=true:=h2
  simpa using this
 cases a;cases b
 simp only at h3
 rw [h3]
theorem keyI:KeyEq encI eqI:=⟨fun a b=>by simp [encI,eqCells,kindEq,eqI],fun a b h=>by simp [eqI] at h;rw [h]⟩
theorem keyS:KeyEq encS eqS:=⟨fun a b=>by simp [encS,eqCells,eqS],fun a b h=>by rw [bytes_toList h]⟩
end
end Go.Sym
namespace Go.Sym
def optC{α β:Type}(o:Option α)(n:β)(s:α→β):β:=match o with
 | none=>n
 | some a=>s a
theorem oN{α β:Type}{o:Option α}{n:β}{s:α→β}(h:o=none):optC o n s=n:=by rw [h];rfl
theorem oS{α β:Type}{o:Option α}{n:β}{s:α→β}{a:α}(h:o=some a):optC o n s=s a:=by rw [h];rfl
end Go.Sym
namespace Go.Sym
variable {P:Program} {B:Base P}
theorem rRealP{s:S}{cs:List Code}{Q:Exit→S→Prop}(k:Nat)(x:CV)(ht:s.t[k]?=some (.pin k (.v x)))(hi:x.isImm=true)(h:RealV x→Run P B s cs Q)(hne:cs≠[]):Run P B s cs Q:=by
 cases cs with
 | nil=>exact absurd rfl hne
 | cons c cs =>
  intro E a w hs
  exact h (RelCV.imm hi (hs.slot k _ ht).1).real E a w hs
end Go.Sym
namespace Go.Sym
def mkO(n M:Nat)(t:List (Nat×SV))(m:List (Nat×MO)):S:=⟨tabT t n 0,tabM m M 0,[]⟩
end Go.Sym
namespace Go.Sym
theorem runW_inv{σ ρ:Type}{bd:σ→Fl σ ρ}(I:σ→Prop)(post:Fl σ ρ→Prop)(hn:∀ x y,I x→bd x=.nx y→I y)(hb:∀ x y,I x→bd x=.br y→post (.br y))(hr:∀ x r,I x→bd x=.rt r→post (.rt r))(h0:∀ x,I x→post (.br x)):
  ∀ k x,I x→post (runW bd k x)
 | 0,x,h=>h0 x h
 | k+1,x,h=>by
  rw [runW]
  cases e:bd x with
  | nx y=>exact runW_inv I post hn hb hr h0 k y (hn x y h e)
  | br y=>exact hb x y h e
  | rt r=>exact hr x r h e
theorem runL_inv{σ ρ:Type}{bd:Nat→σ→Fl σ ρ}{n:Nat}(I:Nat→σ→Prop)(post:Fl σ ρ→Prop)(hn:∀ i x y,i<n→I i x→bd i x=.nx y→I (i+1) y)(hb:∀ i x y,i<n→I i x→bd i x=.br y→post (.br y))(hr:∀ i x r,i<n→I i x→bd i x=.rt r→post (.rt r))(he:∀ x,I n x→post (.nx x)):
  ∀ k i x,i+k=n→I i x→post (runL bd k i x)
 | 0,i,x,hk,h=>by
  have:i=n:=by omega
  subst this
  exact he x h
 | k+1,i,x,hk,h=>by
  rw [runL]
  cases e:bd i x with
  | nx y=>exact runL_inv I post hn hb hr he k (i+1) y (by omega) (hn i x y (by omega) h e)
  | br y=>exact hb i x y (by omega) h e
  | rt r=>exact hr i x r (by omega) h e
end Go.Sym
namespace Go.Proofs.YtidbmbpeblmliaaGreatDoor
open Go.Sym
theorem mix:Tryz.prog.follows .mixedOrders=true:=by kernel_rfl
structure FA where
 f:Nat→Int
def zFA:FA:=⟨fun _=>0⟩
def encFA(n:Nat)(x:FA):List C:=(List.range n).map fun i=>cI (x.f i)
def FA.at(x:FA)(j:Nat):Int:=x.f j
def FA.set(x:FA)(j:Nat)(v:Int):FA:=⟨fun k=>if k=j then v else x.f k⟩
structure Tok where
 kind:Int
 text:ByteArray
 num:Int
 off:Int
def zTok:Tok:=⟨0,ByteArray.empty,0,0⟩
def encTok(x:Tok):List C:=[cI x.kind,.str x.text,cI x.num,cI x.off]
structure Spn where
 frm:Int
 til:Int
def encSpn(x:Spn):List C:=[cI x.frm,cI x.til]
structure Spl where
 kind:Int
 quarter:Int
 num:Int
 frm:Int
 til:Int
def zSpl:Spl:=⟨0,0,0,0,0⟩
def encSpl(x:Spl):List C:=[cI x.kind,cI x.quarter,cI x.num,cI x.frm,cI x.til]
structure Px where
 c0:Int
 c1:Int
 c2:Int
 c3:Int
def zPx:Px:=⟨0,0,0,0⟩
def encPx(x:Px):List C:=[cI x.c0,cI x.c1,cI x.c2,cI x.c3]
structure Cnd where
 clear:Px
 seeing:Int
 opn:Bool
def encCnd(x:Cnd):List C:=encPx x.clear++[cI x.seeing,.bool x.opn]
structure Det where
 gain:Int
 bias:Int
 dark:Int
 full:Int
 keep:Int
def zDet:Det:=⟨0,0,0,0,0⟩
def encDet(x:Det):List C:=[cI x.gain,cI x.bias,cI x.dark,cI x.full,cI x.keep]
structure Tel where
 id:ByteArray
 site:Int
 speed:Int
 filters:Int
 det:Det
def zTel:Tel:=⟨ByteArray.empty,0,0,0,zDet⟩
def encTel(x:Tel):List C:=[.str x.id,cI x.site,cI x.speed,cI x.filters]++encDet x.det
structure Rg where
 pos:Int
 filter:Int
 stuck:Bool
def zRg:Rg:=⟨0,0,false⟩
def encRg(x:Rg):List C:=[cI x.pos,cI x.filter,.bool x.stuck]
structure Dfc where
 tel:Int
 cell:Int
 frm:Int
 til:Int
 known:Int
def zDfc:Dfc:=⟨0,0,0,0,0⟩
def encDfc(x:Dfc):List C:=[cI x.tel,cI x.cell,cI x.frm,cI x.til,cI x.known]
structure Pay where
 kind:Int
 tel:Int
 filter:Int
 mom:Int
def zPay:Pay:=⟨0,0,0,0⟩
def encPay(x:Pay):List C:=[cI x.kind,cI x.tel,cI x.filter,cI x.mom]
structure Nd where
 op:Int
 num:Int
 name:ByteArray
 kids:List Int
def zNd:Nd:=⟨0,0,ByteArray.empty,[]⟩
def encNd(x:Nd):List C:=[cI x.op,cI x.num,.str x.name,.lst 1 x.kids.length (elM Sym.encI 0 x.kids)]
structure Vr where
 name:ByteArray
 value:Int
def zVr:Vr:=⟨ByteArray.empty,0⟩
def encVr(x:Vr):List C:=[.str x.name,cI x.value]
structure Rng where
 name:ByteArray
 low:Int
 high:Int
def zRng:Rng:=⟨ByteArray.empty,0,0⟩
def encRng(x:Rng):List C:=[.str x.name,cI x.low,cI x.high]
structure Stp where
 f:Int
 lo:Int
 hi:Int
def zStp:Stp:=⟨0,0,0⟩
def encStp(x:Stp):List C:=[cI x.f,cI x.lo,cI x.hi]
structure Sq where
 l:List Stp
 rep:Int
def zSq:Sq:=⟨[],0⟩
def encSq(x:Sq):List C:=[.lst 3 x.l.length (elM encStp zStp x.l),cI x.rep]
structure Cs where
 next:Int
 round:Int
 last:Int
 over:Bool
def zCs:Cs:=⟨0,0,0,false⟩
def encCs(x:Cs):List C:=[cI x.next,cI x.round,cI x.last,.bool x.over]
structure Prg where
 id:ByteArray
 partner:Int
 merit:List Nd
 frm:Int
 til:Int
 tiles:List Int
 seq:Sq
 follow:Int
 bonus:Int
def zPrg:Prg:=⟨ByteArray.empty,0,[],0,0,[],zSq,0,0⟩
def encPrg(x:Prg):List C:=[.str x.id,cI x.partner,.lst 4 x.merit.length (elM encNd zNd x.merit),cI x.frm,cI x.til,.lst 1 x.tiles.length (elM Sym.encI 0 x.tiles)]++encSq x.seq++[cI x.follow,cI x.bonus]
structure Ptn where
 id:ByteArray
 share:Int
def zPtn:Ptn:=⟨ByteArray.empty,0⟩
def encPtn(x:Ptn):List C:=[.str x.id,cI x.share]
structure Ov where
 kind:Int
 tel:Int
 prog:Int
 tile:Int
 frm:Int
 til:Int
 known:Int
def zOv:Ov:=⟨0,0,0,0,0,0,0⟩
def encOv(x:Ov):List C:=[cI x.kind,cI x.tel,cI x.prog,cI x.tile,cI x.frm,cI x.til,cI x.known]
structure Rq where
 prog:Int
 tile:Int
 filter:Int
 merit:Int
 alert:Bool
def zRq:Rq:=⟨0,0,0,0,false⟩
def encRq(x:Rq):List C:=[cI x.prog,cI x.tile,cI x.filter,cI x.merit,.bool x.alert]
structure Exc where
 prog:Int
 tile:Int
 filter:Int
 alert:Bool
 reason:Int
def zExc:Exc:=⟨0,0,0,false,0⟩
def encExc(x:Exc):List C:=[cI x.prog,cI x.tile,cI x.filter,.bool x.alert,cI x.reason]
structure Fst where
 op:Int
 a:Int
 b:Int
 num:Int
def zFst:Fst:=⟨0,0,0,0⟩
def encFst(x:Fst):List C:=[cI x.op,cI x.a,cI x.b,cI x.num]
structure Flw where
 name:ByteArray
 version:Int
 steps:List Fst
def encFlw(x:Flw):List C:=[.str x.name,cI x.version,.lst 4 x.steps.length (elM encFst zFst x.steps)]
structure Ta where
 t:Int
 c:Int
 f:Int
 n:Int
def zTa:Ta:=⟨0,0,0,0⟩
def encTa(x:Ta):List C:=[cI x.t,cI x.c,cI x.f,cI x.n]
structure Alr where
 tile:Int
 cell:Int
 filter:Int
 value:Int
 mom:Int
def zAlr:Alr:=⟨0,0,0,0,0⟩
def encAlr(x:Alr):List C:=[cI x.tile,cI x.cell,cI x.filter,cI x.value,cI x.mom]
structure Frn where
 al:Alr
 retract:Int
def zFrn:Frn:=⟨zAlr,0⟩
def encFrn(x:Frn):List C:=encAlr x.al++[cI x.retract]
structure Sub where
 prog:Int
 tile:Int
 filter:Int
 when:List Nd
def zSub:Sub:=⟨0,0,0,[]⟩
def encSub(x:Sub):List C:=[cI x.prog,cI x.tile,cI x.filter,.lst 4 x.when.length (elM encNd zNd x.when)]
structure Fol where
 prog:Int
 tile:Int
 filter:Int
 til:Int
 foreign:Int
def zFol:Fol:=⟨0,0,0,0,0⟩
def encFol(x:Fol):List C:=[cI x.prog,cI x.tile,cI x.filter,cI x.til,cI x.foreign]
structure Wd where
 telescopes:List Tel
 partners:List Ptn
 programmes:List Prg
 fast:Flw
 budget:Int
 subs:List Sub
 tape:List Int
 limit:Int
def encWd(x:Wd):List C:=[.lst 9 x.telescopes.length (elM encTel zTel x.telescopes),.lst 2 x.partners.length (elM encPtn zPtn x.partners),.lst 10 x.programmes.length (elM encPrg zPrg x.programmes)]++encFlw x.fast++[cI x.budget,.lst 4 x.subs.length (elM encSub zSub x.subs),.lst 1 x.tape.length (elM Sym.encI 0 x.tape),cI x.limit]
structure Scr where
 frm:Int
 til:Int
 spells:List Spl
 overrides:List Ov
 defects:List Dfc
 payments:List Pay
 foreign:List Frn
def encScr(x:Scr):List C:=[cI x.frm,cI x.til,.lst 5 x.spells.length (elM encSpl zSpl x.spells),.lst 7 x.overrides.length (elM encOv zOv x.overrides),.lst 5 x.defects.length (elM encDfc zDfc x.defects),.lst 4 x.payments.length (elM encPay zPay x.payments),.lst 6 x.foreign.length (elM encFrn zFrn x.foreign)]
structure Sta where
 mom:Int
 turn:Int
 rigs:List Rg
 ghosts:List Px
 courses:List (List Cs)
 used:List Int
 opn:List Fol
 tallies:List Ta
def encSta(x:Sta):List C:=[cI x.mom,cI x.turn,.lst 3 x.rigs.length (elM encRg zRg x.rigs),.lst 4 x.ghosts.length (elM encPx zPx x.ghosts),.lst 1 x.courses.length (elM (Sym.encL 4 encCs zCs) [] x.courses),.lst 1 x.used.length (elM Sym.encI 0 x.used),.lst 5 x.opn.length (elM encFol zFol x.opn),.lst 4 x.tallies.length (elM encTa zTa x.tallies)]
structure Scn where
 text:ByteArray
 cls:FA
def encScn(x:Scn):List C:=[.str x.text]++(encFA 256) x.cls
structure Fop where
 word:ByteArray
 symbol:ByteArray
 operands:Int
 takes:Bool
 makes:Bool
 most:Int
def zFop:Fop:=⟨ByteArray.empty,ByteArray.empty,0,false,false,0⟩
def encFop(x:Fop):List C:=[.str x.word,.str x.symbol,cI x.operands,.bool x.takes,.bool x.makes,cI x.most]
structure I2 where
 c0:Int
 c1:Int
def zI2:I2:=⟨0,0⟩
def encI2(x:I2):List C:=[cI x.c0,cI x.c1]
structure I3 where
 c0:Int
 c1:Int
 c2:Int
def encI3(x:I3):List C:=[cI x.c0,cI x.c1,cI x.c2]
structure Plc where
 pt:Int
 pc:Int
 pf:Int
def encPlc(x:Plc):List C:=[cI x.pt,cI x.pc,cI x.pf]
structure OvC where
 ctel:Int
 cprog:Int
 ctile:Int
def encOvC(x:OvC):List C:=[cI x.ctel,cI x.cprog,cI x.ctile]
structure Slt where
 w:Wd
 script:Scr
 s:Sta
 t:Int
 sky:Cnd
 rig:Rg
def encSlt(x:Slt):List C:=encWd x.w++encScr x.script++encSta x.s++[cI x.t]++encCnd x.sky++encRg x.rig
def Px.at(x:Px):Nat→Int
 | 0=>x.c0
 | 1=>x.c1
 | 2=>x.c2
 | _=>x.c3
def Px.set(x:Px)(j:Nat)(v:Int):Px:=
 match j with
 | 0=>⟨v,x.c1,x.c2,x.c3⟩
 | 1=>⟨x.c0,v,x.c2,x.c3⟩
 | 2=>⟨x.c0,x.c1,v,x.c3⟩
 | _=>⟨x.c0,x.c1,x.c2,v⟩
def eqI3(a b:I3):Bool:=a.c0==b.c0&&(a.c1==b.c1&&(a.c2==b.c2&&true))
theorem keyI3:KeyEq encI3 eqI3:=⟨fun a b=>by simp [encI3,eqCells,kindEq,eqI3],fun a b h=>by
 simp [eqI3] at h
 obtain ⟨h1,h2,h3⟩:=h
 simp only [encI3,h1,h2,h3]⟩
theorem byteAt_lt(s:ByteArray)(i:Nat):(byteAt s i).toNat<256:=by
 have:=UInt8.toNat_lt ((s[i]?).getD 0)
 simp only [byteAt];omega
theorem byteAt_bd(s:ByteArray)(i:Nat):0≤byteAt s i∧byteAt s i<(256:Int):=by
 have:=UInt8.toNat_lt ((s[i]?).getD 0)
 simp only [byteAt];omega
theorem fa_sub(N:Nat)(pre:List C)(x:FA)(j:Nat)(hj:j<N):pre.length+j*1+1≤(pre++encFA N x).length∧sub (pre++encFA N x) (pre.length+j*1) 1=[cI (x.at j)]:=by
 refine ⟨by simp [encFA];omega,?_⟩
 rw [sub,Nat.mul_one,List.drop_append]
 rw [show List.drop (pre.length+j) pre=[] by simp]
 simp only [List.nil_append,Nat.add_sub_cancel_left,encFA]
 rw [List.take_one,List.head?_drop]
 simp [hj,FA.at]
theorem fa_at(N:Nat)(x:FA)(j:Nat)(hj:j<N):0+j*1+1≤(encFA N x).length∧sub (encFA N x) (0+j*1) 1=[cI (x.at j)]:=fa_sub N [] x j hj
theorem scn_at(x:Scn)(j:Nat)(hj:j<256):1+j*1+1≤(encScn x).length∧sub (encScn x) (1+j*1) 1=[cI (x.cls.at j)]:=fa_sub 256 [.str x.text] x.cls j hj
theorem fa_set(N:Nat)(x:FA)(j:Nat)(v:Int)(hj:j<N):0+j*1+[cI v].length≤(encFA N x).length∧splice (encFA N x) (0+j*1) [cI v]=encFA N (x.set j v):=by
 refine ⟨by simp [encFA];omega,?_⟩
 apply List.ext_getElem?
 intro k
 simp only [splice,encFA,Nat.zero_add,Nat.mul_one,List.length_singleton]
 rw [List.append_assoc,List.getElem?_append]
 simp only [List.length_take,List.length_map,List.length_range]
 by_cases h1:k<j
 ·rw [if_pos (by omega),List.getElem?_take,if_pos h1]
  simp [show k<N by omega,FA.set,show k≠j by omega]
 ·rw [if_neg (by omega)]
  by_cases h2:k=j
  ·subst h2
   simp [show k - min k N=0 by omega,hj,FA.set]
  ·rw [List.getElem?_append_right (by simp;omega)]
   simp only [List.length_singleton,List.getElem?_drop]
   rw [show j+1+(k - min j N - 1)=k by omega]
   by_cases h3:k<N
   ·simp [h3,FA.set,h2]
   ·simp [h3]
end Go.Proofs.YtidbmbpeblmliaaGreatDoor
