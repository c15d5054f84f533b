/- Part of the proof of the statement that the claim's last text names: contracts of functions and laws of the symbolic layer. -/
import Derived.MapKept
import Derived.Test.YtidbmbpeblmliaaGreatDoorO05
set_option linter.unusedVariables false
set_option linter.unusedSimpArgs false
namespace Go.Sym
open Go.RowKit
variable {P:Program} {B:Base P} {E:Env} {m:List (Option MO)} {w:World}
theorem isIntT_spec{t:TypeId}{k:IntKind}(h:isIntT P t k=true):P.underlying t=some (.int k):=by
 unfold isIntT at h
 split at h
 ·rename_i d hd
  rw [← kindEq_eq h];exact hd
 ·cases h
def KeysAre(k:IntKind)(ks:List Int)(es:List MapEntry):Prop:=es.map (·.key)=ks.map (Value.int k)
theorem oneOr_cells{v:Value}(h:oneOr false v):v.cells=#[v]:=by
 have h1:v.oneCell'=true:=h
 cases v<;>first | rfl | simp [Value.oneCell'] at h1
theorem kmap_rel{K:Know}{kagg agg:Bool}{ents:List (List C×List C)}{u:Value}(h:RelK K (.kmap kagg agg ents) u):∃ b es,u=.map (some b)∧K b=some (.map es es.size)∧MapRel K kagg agg ents es:=by
 cases h with
 | kmap _ _ _ b es g hK hs hst hg hkl hk hko hka hl hr ho ha =>
  refine ⟨b,es,rfl,hK,hs,fun j e he=>?_⟩
  have hlt:j<ents.length:=by rw [← hs];exact (Array.getElem?_eq_some_iff.1 he).1
  rw [hg j hlt] at he
  cases he
  exact ⟨⟨⟨hkl j hlt,fun i hi=>⟨hk j i hlt hi,hko j i hlt hi⟩⟩,hka j hlt⟩,⟨⟨hl j hlt,fun i hi=>⟨hr j i hlt hi,ho j i hlt hi⟩⟩,ha j hlt⟩,hst j hlt⟩
theorem keys_of{K:Know}:∀ {k:IntKind} {ents:List (List C×List C)} {ks:List Int} {es:List MapEntry},intKeys k ents=some ks→es.length=ents.length →
  (∀ (j:Nat) (e:MapEntry),es[j]?=some e→RelLK K (ents.getD j ([],[])).1 e.key.cells∧oneOr false e.key)→KeysAre k ks es:=by
 intro k ents
 induction ents with
 | nil =>
  intro ks es h hl _
  simp only [intKeys] at h
  cases h
  cases es with
  | nil=>rfl
  | cons e es=>simp at hl
 | cons en ents ih =>
  intro ks es h hl hr
  unfold intKeys at h
  split at h
  ·rename_i heq;cases heq
  ·rename_i k' a cs r heq
   cases heq
   split at h
   case isFalse=>cases h
   rename_i hk
   have:=kindEq_eq hk
   subst this
   simp only [Option.map_eq_some_iff] at h
   obtain ⟨ks',h1,rfl⟩:=h
   cases es with
   | nil=>simp at hl
   | cons e es =>
    obtain ⟨h0,h0'⟩:=hr 0 e rfl
    have hrec:=ih (es:=es) h1 (by simpa using hl) (fun j e' he'=>by
     have:=hr (j+1) e' (by simpa using he')
     simpa [gE] using this)
    simp only [gE,List.getElem?_cons_zero,Option.getD_some] at h0
    rw [oneOr_cells h0'] at h0
    have h2:=(h0.2 0 (by simp)).1
    unfold KeysAre at hrec ⊢
    simp only [List.map_cons,hrec]
    simp at h2
    generalize e.key=u at h2
    cases h2
    rfl
  ·cases h
theorem findNow_none{d k:IntKind}{a:Int}:∀ {es:List MapEntry} {ks:List Int} {i:Nat},KeysAre k ks es→ks.all (fun b=>!(a==b))=true→Instr.findNow (.int d) (.int k a) es i=some none:=by
 intro es
 induction es with
 | nil=>intro ks i _ _;rfl
 | cons e es ih =>
  intro ks i h ha
  cases ks with
  | nil=>simp [KeysAre] at h
  | cons b ks =>
   simp only [KeysAre,List.map_cons,List.cons.injEq] at h
   simp only [List.all_cons,Bool.and_eq_true,Bool.not_eq_true'] at ha
   have hs:Instr.sameNow (.int d) (.int k a) e.key=some (a==b):=by rw [h.1];simp [Instr.sameNow]
   simp only [Instr.findNow,hs,ha.1]
   exact ih h.2 ha.2
theorem findNow_at{d k:IntKind}{a:Int}:∀ {es:List MapEntry} {ks:List Int} {i j:Nat} {e:MapEntry},KeysAre k ks es→(ks.take j).all (fun b=>!(a==b))=true→ks[j]?=some a→es[j]?=some e →
  Instr.findNow (.int d) (.int k a) es i=some (some (i+j,e.val)):=by
 intro es
 induction es with
 | nil=>intro ks i j e _ _ _ h;simp at h
 | cons e0 es ih =>
  intro ks i j e h ha hj he
  cases ks with
  | nil=>simp at hj
  | cons b ks =>
   simp only [KeysAre,List.map_cons,List.cons.injEq] at h
   have hs:Instr.sameNow (.int d) (.int k a) e0.key=some (a==b):=by rw [h.1];simp [Instr.sameNow]
   cases j with
   | zero =>
    simp at hj he
    subst hj
    subst he
    simp only [Instr.findNow,hs]
    simp
   | succ j =>
    simp only [List.take_succ_cons,List.all_cons,Bool.and_eq_true,Bool.not_eq_true'] at ha
    simp only [Instr.findNow,hs,ha.1]
    rw [ih (i:=i+1) h.2 ha.2 (by simpa using hj) (by simpa using he)]
    congr 3
    omega
theorem Core.allocMap{n:Nat}{kagg agg:Bool}(hc:Core B E m w)(hm:m[n]?=some none):
  ∃ E',E.Le E'∧E'.mp n=some w.heap.size∧Core B E' (m.set n (some (.omap kagg agg []))) (w.alloc (.map #[] 0)):=by
 obtain ⟨hcn,hrn,hmn⟩:=hc.nothing hm
 let E':Env:={ E with mp:=fun k=>if k=n then some w.heap.size else E.mp k }
 have hmp:E'.mp n=some w.heap.size:=if_pos rfl
 have hle:E.Le E':=⟨Know.le_refl _,fun _ _ h=>h,fun k b h=>by
   show (if k=n then _ else E.mp k)=_
   by_cases hk:k=n
   ·subst hk;rw [hmn] at h;cases h
   ·rw [if_neg hk];exact h,rfl,fun r hd len h=>⟨hd,len,h,Nat.le_refl _,fun _=>rfl⟩⟩
 refine ⟨E',hle,hmp,hc.step ⟨_,hm⟩ hle rfl (fun k hk=>⟨rfl,rfl,if_neg hk⟩) (fun b h=>?_) (fun x h=>?_) (fun b h=>⟨_,_,_,rfl⟩) ?_ (fun b' h=>?_) (by rw [World.size_alloc];omega) rfl rfl rfl (fun b' hb' hh=>heapOld w _ b' hb')⟩
 ·rw [show E'.cel n=E.cel n from rfl,hcn] at h;cases h
 ·rw [show E'.rw n=E.rw n from rfl,hrn] at h;cases h
 ·exact ⟨w.heap.size,#[],hmp,heap_alloc_new w _,rfl,fun j e he=>by simp at he⟩
 ·rcases h with h | h | ⟨hd,len,h,_⟩
  ·rw [show E'.cel n=E.cel n from rfl,hcn] at h;cases h
  ·rw [hmp] at h
   cases h
   exact ⟨.inl (Nat.le_refl _),by rw [World.size_alloc];omega⟩
  ·rw [show E'.rw n=E.rw n from rfl,hrn] at h;cases h
theorem makeMap_sound{o:Oper}{a:Act}{t:TypeId}{vs:List SB}{r:SB}{ms':List (Option (Option MO))}{q:List Prop}(hc:Core B E m w)(ho:o.op=.makeMap t none) 
  (hact:actMakeMap P t o.dst ((Op.names o.op o.dst vs).map (getM m))=some (r,ms',q)):Done P B E (putM m (Op.names o.op o.dst vs) ms') r o a w:=by
 unfold actMakeMap at hact
 rw [ho] at hact ⊢
 split at hact
 ·split at hact
  ·rename_i n hd hm
   cases hact
   simp only [Op.names,hd,Option.toList_some,List.map_cons,List.map_nil] at hm ⊢
   have hmn:m[n]?=some none:=by
    have:=(List.cons.inj hm).1
    simpa [getM] using this
   obtain ⟨E',hle,hmp,hc'⟩:=hc.allocMap hmn
   intro next Q h
   refine wpIn_of (by intro c hc;rw [ho] at hc;cases hc) ?_
   have hrun:(execOp a.eval o).run P w=.ok (.value (.map (some w.heap.size))) (w.alloc (.map #[] 0)):=by
    simp only [execOp,ho,Instr.makeMap,Option.map_none,Sem.run_bind,Sem.run_pure,Result.andThen_ok,run_newObj,World.alloc_eq]
   rw [hrun]
   exact h _ _ E' hle hc' ⟨⟨_,hmp,rfl⟩,rfl⟩
  ·cases hact
 ·cases hact
theorem Core.setMap{n b:Nat}{kagg agg:Bool}{ents ents':List (List C×List C)}{es es':Array MapEntry}(hc:Core B E m w) 
  (hm:m[n]?=some (some (.omap kagg agg ents))) (hmp:E.mp n=some b)
  (hb:w.heap[b]?=some (.map es es.size)) (hrel:MapRel E.K kagg agg ents' es') :
  Core B E (m.set n (some (.omap kagg agg ents'))) { w with heap:=w.heap.setIfInBounds b (.map es' es'.size) }:=by
 have hnone:E.cel n=none∧E.rw n=none:=by
  constructor
  ·cases h:E.cel n with
   | none=>rfl
   | some x=>obtain ⟨o1,h2,h3⟩:=hc.cel n x h;rw [hm] at h2;cases h2;cases h3
  ·cases h:E.rw n with
   | none=>rfl
   | some x=>obtain ⟨o,h2,h3⟩:=hc.rw n x h;rw [hm] at h2;cases h2;cases h3
 have hlt:=(Array.getElem?_eq_some_iff.1 hb).1
 refine hc.step ⟨_,hm⟩ (Env.Le.refl E) rfl (fun _ _=>⟨rfl,rfl,rfl⟩) (fun b h=>?_) (fun x h=>?_) (fun b h=>⟨_,_,_,rfl⟩) ?_ (fun b' h=>⟨.inr h,by have:=hc.lt n b' h;simpa using this⟩) (by simp) rfl rfl rfl (fun b' hb' hh=>?_)
 ·rw [hnone.1] at h;cases h
 ·rw [hnone.2] at h;cases h
 ·exact ⟨b,es',hmp,by simp [hlt],hrel⟩
 ·have hne:b≠b':=fun e=>hh (by rw [← e];exact .inr (.inl hmp))
  simp [Array.getElem?_setIfInBounds_ne hne]
theorem MapRel.push{K:Know}{kagg agg:Bool}{ents:List (List C×List C)}{es:Array MapEntry}{en:List C×List C}{e:MapEntry}(hrel:MapRel K kagg agg ents es) 
  (h1:(RelLK K en.1 e.key.cells∧oneOr kagg e.key)∧(RelLK K en.2 e.val.cells∧oneOr agg e.val)) (hb:e.born=es.size):MapRel K kagg agg (ents++[en]) (es.push e):=by
 refine ⟨by simp [hrel.1],fun j e' he'=>?_⟩
 by_cases hj:j<es.size
 ·have hjl:j<ents.length:=by rw [← hrel.1];exact hj
  have:es[j]?=some e':=by
   rw [Array.getElem?_push,if_neg (by omega)] at he'
   exact he'
  have h:=hrel.2 j e' this
  have e1:(ents++[en]).getD j ([],[])=ents.getD j ([],[]):=by simp [gE,List.getElem?_append_left hjl]
  rw [e1];exact h
 ·have hje:j=es.size:=by
   have:=(Array.getElem?_eq_some_iff.1 he').1
   simp at this
   omega
  subst hje
  have:e'=e:=by simpa using he'.symm
  subst this
  have e1:(ents++[en]).getD es.size ([],[])=en:=by rw [hrel.1];simp [gE]
  rw [e1];exact ⟨h1.1,h1.2,hb⟩
theorem MapRel.setEnt{K:Know}{kagg agg:Bool}{ents:List (List C×List C)}{es:Array MapEntry}{i:Nat}{cs:List C}{u:Value}(hrel:MapRel K kagg agg ents es) 
  (h1:RelLK K cs u.cells∧oneOr agg u) (hi:i<ents.length):MapRel K kagg agg (setEnt ents i cs) (es.modify i fun e=>{ e with val:=u }):=by
 refine ⟨by simp [Go.Sym.setEnt,hrel.1],fun j e' he'=>?_⟩
 rw [Array.getElem?_modify] at he'
 by_cases hj:i=j
 ·subst hj
  simp only [if_true,Option.map_eq_some_iff] at he'
  obtain ⟨e0,h0,rfl⟩:=he'
  have h:=hrel.2 i e0 h0
  have e1:(Go.Sym.setEnt ents i cs).getD i ([],[])=((ents.getD i ([],[])).1,cs):=by simp [Go.Sym.setEnt,gE,hi]
  rw [e1]
  exact ⟨h.1,h1,h.2.2⟩
 ·rw [if_neg hj] at he'
  have h:=hrel.2 j e' he'
  have e1:(Go.Sym.setEnt ents i cs).getD j ([],[])=ents.getD j ([],[]):=by simp [Go.Sym.setEnt,gE,List.getElem?_set_ne hj]
  rw [e1];exact h
theorem insert_sound{o:Oper}{a:Act}{t:TypeId}{x y z:Operand}{vs:List SB}{r:SB}{ms':List (Option (Option MO))}{q:List Prop}(hc:Core B E m w)(ho:o.op=.insert t x y z) 
  (hv:Vals E a.eval [x,y,z] vs) (hact:actInsert P t vs ((Op.names o.op o.dst vs).map (getM m))=some (r,ms',q)) (hq:allP q):Done P B E (putM m (Op.names o.op o.dst vs) ms') r o a w:=by
 unfold actInsert at hact
 rw [ho] at hact ⊢
 split at hact
 case h_2=>cases hact
 rename_i kt et hu
 split at hact
 case h_2=>cases hact
 rename_i n k key u agg ents hms
 split at hact
 case h_2=>cases hact
 rename_i ks hks
 have hck2:=(ck_some hact).1
 replace hact:=(ck_some hact).2
 cases hact
 simp only [Bool.and_eq_true] at hck2
 have hd:=isIntT_spec hck2.1.1
 have hm:m[n]?=some (some (.omap false agg ents)):=by
  simp only [Op.names,List.map_cons,List.map_nil] at hms
  have:=(List.cons.inj hms).1
  simpa [getM] using this
 obtain ⟨b,es,hmp,hb,hrel⟩:=hc.mem n _ hm
 have hx:a.eval x=.map (some b):=by
  obtain ⟨b',hb',hu'⟩:∃ b,E.mp n=some b∧a.eval x=.map (some b):=relSB_c (hv.2 0 x _ rfl rfl)
  rw [hmp] at hb'
  cases hb'
  exact hu'
 have hy:=relSB_int (hv.2 1 y _ rfl rfl)
 have hz:RelCV E u (a.eval z):=hv.2 2 z _ rfl rfl
 have hkeys:=keys_of (es:=es.toList) hks (by simpa using hrel.1) (fun j e he=>(hrel.2 j e (by simpa using he)).1)
 have hfind:=findNow_none (d:=k) (a:=key) (i:=0) hkeys hq
 have hrun:(execOp a.eval o).run P w=.ok .skip { w with heap:=w.heap.setIfInBounds b (.map (es.push { key:=.int k key,val:=a.eval z,born:=es.size }) (es.size+1)) }:=by
  have hkey:MapKept.IsKey (.int k) (.int k key):=by simp [MapKept.IsKey]
  simp only [execOp,ho,Instr.mapUpdate,Sem.run_bind,run_underlying hu,Result.andThen_ok,hx,hy,MapKept.run_getObj_map hb]
  rw [show (Instr.checkKey false 10000 kt (.int k key)).run P w=.ok () w from MapKept.run_checkKey hd hkey false 9999]
  simp only [Result.andThen_ok,MapKept.run_findKey hd hfind,MapKept.run_setObj_map _ hb,Sem.run_pure]
 intro next Q h
 refine wpIn_of (by intro c hc;rw [ho] at hc;cases hc) ?_
 rw [hrun]
 refine h undef _ E (Env.Le.refl E) ?_ ⟨#[],rfl,rfl,fun j hj=>by simp at hj⟩
 have h1:RelLK E.K (cvCells u) (a.eval z).cells∧oneOr agg (a.eval z):=by
  refine ⟨cvCells_relK hck2.1.2 hz,?_⟩
  have hag:=hck2.2
  cases u with
  | c x =>
   cases agg with
   | true=>cases hag
   | false=>exact hz.2
  | agg cs =>
   cases agg with
   | true=>obtain ⟨arr,h1,_⟩:=hz;exact ⟨arr,h1⟩
   | false=>cases hag
  | pagg cs=>cases hck2.1.2
 have hp:=hrel.push (en:=([.int k key],cvCells u)) (e:={ key:=.int k key,val:=a.eval z,born:=es.size }) ⟨⟨⟨rfl,fun j hj=>by
  have:j=0:=by simp at hj;omega
  subst this
  exact ⟨RelK.int _ _,rfl⟩⟩,rfl⟩,h1⟩ rfl
 have h2:=hc.setMap hm hmp hb hp
 rw [Array.size_push] at h2
 exact h2
theorem eqCells_refl:∀ {cs:List C} {fs:List Flat},flatOf cs=some fs→eqCells cs cs=some true:=by
 intro cs
 induction cs with
 | nil=>intro fs _;rfl
 | cons c cs ih =>
  intro fs h
  have hk:∀ k:IntKind,kindEq k k=true:=fun k=>by cases k<;>rfl
  cases c<;>simp only [flatOf] at h<;>(try cases h)<;>simp only [Option.map_eq_some_iff] at h<;>obtain ⟨fs',h1,_⟩:=h<;>simp [eqCells,ih h1,hk]
theorem flat_det{K:Know}{kc:List C}{fs:List Flat}(hf:flatOf kc=some fs){x y:Array Value}(hx:RelLK K kc x)(hy:RelLK K kc y):x=y:=by
 refine Array.ext (by rw [hx.1,hy.1]) fun j h1 h2=>?_
 have hj:j<kc.length:=by rw [← hx.1];exact h1
 have r1:=(hx.2 j hj).1
 have r2:=(hy.2 j hj).1
 rw [show x.getD j undef=x[j] by simp [Array.getD_eq_getD_getElem?,h1]] at r1
 rw [show y.getD j undef=y[j] by simp [Array.getD_eq_getD_getElem?,h2]] at r2
 have hc:(∃ k n,kc.getD j .junk=.int k n)∨(∃ b,kc.getD j .junk=.bool b)∨(∃ s,kc.getD j .junk=.str s):=by
  clear r1 r2 hx hy h1 h2
  revert j fs
  induction kc with
  | nil=>intro fs _ j hj;simp at hj
  | cons c cs ih =>
   intro fs hf j hj
   have hrec:∃ fs',flatOf cs=some fs':=by
    cases c<;>simp only [flatOf] at hf<;>(try cases hf)<;>simp only [Option.map_eq_some_iff] at hf<;>obtain ⟨fs',h1,_⟩:=hf<;>exact ⟨fs',h1⟩
   obtain ⟨fs',h1⟩:=hrec
   cases j with
   | succ j=>simpa [gE] using ih h1 j (by simpa using hj)
   | zero =>
    cases c<;>simp only [flatOf] at hf<;>(try cases hf)<;>simp
 generalize kc.getD j .junk=c at r1 r2 hc
 generalize x[j]=u at r1
 generalize y[j]=v at r2
 rcases hc with ⟨k,n,rfl⟩ | ⟨b,rfl⟩ | ⟨s,rfl⟩<;>cases r1<;>cases r2<;>rfl
theorem oneOr_ext{kagg:Bool}{u v:Value}(hu:oneOr kagg u)(hv:oneOr kagg v)(h:u.cells=v.cells):u=v:=by
 cases kagg with
 | true=>obtain ⟨x,rfl⟩:=hu;obtain ⟨y,rfl⟩:=hv;simp only [Value.cells] at h;rw [h]
 | false=>rw [oneOr_cells hu,oneOr_cells hv] at h;simpa using h
theorem keyOfSB_spec{kagg:Bool}{x:SB}{kc:List C}{u:Value}(h:keyOfSB kagg x=some kc)(hr:RelSB E x u):RelLK E.K kc u.cells∧oneOr kagg u:=by
 unfold keyOfSB at h
 split at h
 case h_2=>cases h
 rename_i x
 split at h
 case isFalse=>cases h
 rename_i hc
 cases h
 simp only [Bool.and_eq_true] at hc
 have hr':RelCV E x u:=hr
 refine ⟨cvCells_relK hc.1 hr',?_⟩
 have hag:=hc.2
 cases x with
 | c x =>
  cases kagg with
  | true=>cases hag
  | false=>exact hr'.2
 | agg cs =>
  cases kagg with
  | true=>obtain ⟨arr,h1,_⟩:=hr';exact ⟨arr,h1⟩
  | false=>cases hag
 | pagg cs=>cases hc.1
theorem mkV_cells{kagg:Bool}{u:Value}(h:oneOr kagg u):mkV kagg u.cells.toList=u:=by
 cases kagg with
 | true=>obtain ⟨arr,rfl⟩:=h;simp [mkV,Value.cells]
 | false=>rw [oneOr_cells h];rfl
theorem relLK_list{K:Know}{cs:List C}{x:Array Value}(h:RelLK K cs x):x.toList.length=cs.length∧∀ j,j<cs.length→RelK K (cs.getD j .junk) (x.toList.getD j undef):=
 ⟨by simpa using h.1,fun j hj=>by have:=(h.2 j hj).1;simpa [gE] using this⟩
theorem key_cmp{kagg:Bool}{kc kd:List C}{fs:List Flat}{u:Value}{e:MapEntry}{b:Bool}(hf:flatOf kc=some fs)(hu:RelLK E.K kc u.cells)(he:RelLK E.K kd e.key.cells∧oneOr kagg e.key)(hq:eqCells kc kd=some b):
  keyIs kagg fs e∧eqVals u.cells.toList e.key.cells.toList=b:=by
 obtain ⟨l1,r1⟩:=relLK_list hu
 obtain ⟨l2,r2⟩:=relLK_list he.1
 obtain ⟨l3,f3⟩:=flat_val (E:=E) (flat_transfer hq hf) l2 r2
 exact ⟨⟨he.2,by simpa using l3,f3⟩,eqVals_of (E:=E) hq l1 l2 r1 r2⟩
theorem find_run{kt:TypeId}{kagg agg:Bool}{ents:List (List C×List C)}{es:Array MapEntry}{kc:List C}{fs:List Flat}{u:Value}(hty:KeyTy P kt kagg fs)(hf:flatOf kc=some fs)(hu:RelLK E.K kc u.cells∧oneOr kagg u) 
  (hrel:MapRel E.K kagg agg ents es):(∀ em,(Instr.checkKey em 10000 kt u).run P w=.ok () w) ∧
  (KeyNo ents kc→(Instr.findKey kt u es.toList).run P w=.ok none w) ∧
  (∀ i,KeyAt ents kc i→∃ e,es[i]?=some e∧(Instr.findKey kt u es.toList).run P w=.ok (some (i,e.val)) w∧e.key=u∧RelLK E.K (ents.getD i ([],[])).2 e.val.cells∧oneOr agg e.val):=by
 obtain ⟨l1,r1⟩:=relLK_list hu.1
 obtain ⟨l2,f2⟩:=flat_val (E:=E) hf l1 r1
 obtain ⟨t1,t2,t3⟩:=hty w u.cells.toList l2 f2
 rw [mkV_cells hu.2] at t1 t2 t3
 refine ⟨t1,fun hno=>t2 _ fun j e he=>?_,fun i hat=>?_⟩
 ·have he':es[j]?=some e:=by simpa using he
  have hj:j<ents.length:=by rw [← hrel.1];exact (Array.getElem?_eq_some_iff.1 he').1
  exact key_cmp hf hu.1 (hrel.2 j e he').1 (hno j hj)
 ·have hi:i<es.size:=by rw [hrel.1];exact hat.lt
  have hei:es[i]?=some es[i]:=by simp [hi]
  have h1:=hrel.2 i _ hei
  have hk:RelLK E.K kc es[i].key.cells:=by have:=h1.1.1;rw [hat.at'] at this;exact this
  refine ⟨es[i],hei,t3 _ i es[i] (by simp [hi]) (fun j e' hj he=>?_) ?_ ?_,?_,h1.2.1⟩
  ·have he':es[j]?=some e':=by simpa using he
   exact key_cmp hf hu.1 (hrel.2 j e' he').1 (hat.no j hj)
  ·exact (key_cmp hf hu.1 ⟨hk,h1.1.2⟩ (eqCells_refl hf)).1
  ·exact (key_cmp (e:=es[i]) hf hu.1 ⟨hk,h1.1.2⟩ (eqCells_refl hf)).2
  ·exact oneOr_ext h1.1.2 hu.2 (flat_det hf hk hu.1)
theorem entCV_rel{agg:Bool}{cs:List C}{v:Value}(hck:(match agg with | true=>true | false=>Nat.beq cs.length 1)=true)(hr:RelLK E.K cs v.cells)(ho:oneOr agg v):RelCV E (entCV agg cs) v:=by
 cases agg with
 | true=>obtain ⟨arr,rfl⟩:=ho;exact ⟨arr,rfl,hr⟩
 | false =>
  have hl:cs.length=1:=by simpa using hck
  have h0:=hr.2 0 (by omega)
  rw [oneOr_cells ho] at h0
  exact ⟨Rel.of_relK h0.1,ho⟩
theorem zeroEl_spec{et:TypeId}{agg:Bool}{z:CV}{zc:List C}(h:zeroEl P et agg=some (z,zc)):∃ v,zeroT P et=some v∧RelCV E z v∧RelLK E.K zc v.cells∧oneOr agg v:=by
 unfold zeroEl at h
 split at h
 case h_2=>cases h
 rename_i v hv
 split at h
 case isFalse=>cases h
 rename_i hc
 cases h
 simp only [Bool.and_eq_true] at hc
 refine ⟨v,hv,?_,zero_cells hc.1,?_⟩
 ·have h2:=hc.2
  revert h2
  cases agg with
  | true =>
   intro h2
   cases v<;>first | exact ⟨_,rfl,zero_cells hc.1⟩ | simp [zeroOk] at h2
  | false =>
   intro h2
   exact ⟨Rel.of_relK (valC_rel v h2),h2⟩
 ·have h2:=hc.2
  revert h2
  cases agg with
  | true=>intro h2;cases v<;>first | exact ⟨_,rfl⟩ | simp [zeroOk] at h2
  | false=>intro h2;exact h2
theorem lookRes_rel{ok:Bool}{x:CV}{v:Value}{b:Bool}(h:RelCV E x v):RelSB E (lookRes ok x b) (if ok then .tuple #[v,.bool b] else v):=by
 cases ok with
 | true =>
  refine ⟨#[v,.bool b],rfl,rfl,fun j hj=>?_⟩
  match j,hj with
  | 0,_=>exact h
  | 1,_=>exact ⟨RelK.bool b,rfl⟩
 | false=>exact h
theorem zeroEl_ent{et:TypeId}{agg:Bool}{z:CV}{zc:List C}(h:zeroEl P et agg=some (z,zc)):z=entCV agg zc∧(agg=false→zc.length=1):=by
 unfold zeroEl at h
 split at h
 case h_2=>cases h
 rename_i v hv
 split at h
 case isFalse=>cases h
 rename_i hc
 cases h
 simp only [Bool.and_eq_true] at hc
 have h2:=hc.2
 cases agg with
 | true=>exact ⟨rfl,fun h=>by cases h⟩
 | false=>cases v<;>first | exact ⟨rfl,fun _=>rfl⟩ | simp [zeroOk,Value.oneCell'] at h2
theorem lookK_sound{o:Oper}{a:Act}{t:TypeId}{x y:Operand}{ok kagg agg:Bool}{kt et:TypeId}{ents:List (List C×List C)}{es:Array MapEntry}{b:Nat}{key r:SB}{ms ms':List (Option (Option MO))}{q:List Prop}{oi:Option Nat}{cs:List C} 
  (hc:Core B E m w) (ho:o.op=.lookup t x y ok) (hu:P.underlying t=some (.map kt et)) (hx:a.eval x=.map (some b)) (hb:w.heap[b]?=some (.map es es.size)) (hrel:MapRel E.K kagg agg ents es) (hy:RelSB E key (a.eval y))
  (hact:actLookK P kt et ok kagg agg ents key ms oi cs=some (r,ms',q)) (hq:allP q):Done P B E m r o a w:=by
 unfold actLookK at hact
 split at hact
 case h_2=>cases hact
 rename_i kc hkc
 split at hact
 case h_2=>cases hact
 rename_i fs hfs
 have hku:=keyOfSB_spec hkc hy
 split at hact
 ·rename_i i
  have hck:=(ck_some hact).1
  replace hact:=(ck_some hact).2
  cases hact
  obtain ⟨q1,q23⟩:=allP_cons.1 hq
  obtain ⟨q2,q3⟩:=allP_cons.1 q23
  obtain ⟨f1,_,f3⟩:=find_run (w:=w) q1 hfs hku hrel
  obtain ⟨e,he,hfind,_,hv,hov⟩:=f3 i q2
  have q3':(ents.getD i ([],[])).2=cs:=q3
  rw [q3'] at hv
  refine done_value (u:=if ok then .tuple #[e.val,.bool true] else e.val) hc ?_ (lookRes_rel (entCV_rel hck hv hov))
  simp only [execOp,ho,Instr.lookup,Sem.run_bind,run_underlying hu,Result.andThen_ok,hx,MapKept.run_getObj_map hb,Sem.run_pure,f1,hfind]
 ·split at hact
  case h_2=>cases hact
  rename_i z zc hz
  split at hact
  ·cases hact
   obtain ⟨q1,q2⟩:=allP_cons.1 hq
   obtain ⟨f1,f2,_⟩:=find_run (w:=w) q1 hfs hku hrel
   obtain ⟨v,hzv,hzr,_,_⟩:=zeroEl_spec (E:=E) hz
   refine done_value (u:=if ok then .tuple #[v,.bool false] else v) hc ?_ (lookRes_rel hzr)
   simp only [execOp,ho,Instr.lookup,Sem.run_bind,run_underlying hu,Result.andThen_ok,hx,MapKept.run_getObj_map hb,Sem.run_pure,f1,f2 q2,run_zeroValue hzv]
  ·cases ok with
   | true=>cases hact
   | false =>
   cases hact
   obtain ⟨q1,q2⟩:=allP_cons.1 hq
   obtain ⟨f1,f2,f3⟩:=find_run (w:=w) q1 hfs hku hrel
   obtain ⟨v,hzv,hzr,_,_⟩:=zeroEl_spec (E:=E) hz
   have q2':KeyNo ents kc∨∃ i,KeyAt ents kc i∧(ents.getD i ([],[])).2=zc:=q2
   rcases q2' with hno | ⟨i,hat,hval⟩
   ·refine done_value (u:=v) hc ?_ hzr
    simp only [execOp,ho,Instr.lookup,Sem.run_bind,run_underlying hu,Result.andThen_ok,hx,MapKept.run_getObj_map hb,Sem.run_pure,f1,f2 hno,run_zeroValue hzv]
    rfl
   ·obtain ⟨e,he,hfind,_,hv,hov⟩:=f3 i hat
    rw [hval] at hv
    obtain ⟨hz1,hz2⟩:=zeroEl_ent hz
    refine done_value (u:=e.val) hc ?_ (by rw [hz1];exact entCV_rel (by cases agg with | true=>rfl | false=>rw [hz2 rfl];rfl) hv hov)
    simp only [execOp,ho,Instr.lookup,Sem.run_bind,run_underlying hu,Result.andThen_ok,hx,MapKept.run_getObj_map hb,Sem.run_pure,f1,hfind]
    rfl
theorem lookA_sound{o:Oper}{a:Act}{t:TypeId}{x y:Operand}{ok kagg agg:Bool}{kt et:TypeId}{ents:List (List C×List C)}{es:Array MapEntry}{b:Nat}{key r:SB}{ms ms':List (Option (Option MO))}{q:List Prop}{bb:Bool}{cs:List C} 
  (hc:Core B E m w) (ho:o.op=.lookup t x y ok) (hu:P.underlying t=some (.map kt et)) (hx:a.eval x=.map (some b)) (hb:w.heap[b]?=some (.map es es.size)) (hrel:MapRel E.K kagg agg ents es) (hy:RelSB E key (a.eval y))
  (hact:actLookA P kt et ok kagg agg ents key ms bb cs=some (r,ms',q)) (hq:allP q):Done P B E m r o a w:=by
 unfold actLookA at hact
 split at hact
 case h_2=>cases hact
 rename_i kc hkc
 split at hact
 case h_2=>cases hact
 rename_i fs hfs
 split at hact
 case h_2=>cases hact
 rename_i z zc hz
 have hck:=(ck_some hact).1
 replace hact:=(ck_some hact).2
 cases hact
 obtain ⟨q1,q2⟩:=allP_cons.1 hq
 have q2:Look ents kc zc bb cs:=q2
 rcases q2 with ⟨rfl,i,hat,hv⟩ | ⟨rfl,hno,rfl⟩
 ·refine lookK_sound (oi:=some i) (cs:=cs) (ms:=ms) (ms':=ms) (q:=[KeyTy P kt kagg fs,KeyAt ents kc i,(ents.getD i ([],[])).2=cs]) hc ho hu hx hb hrel hy ?_ ⟨q1,hat,hv⟩
  unfold actLookK
  simp only [hkc,hfs]
  rw [hck]
  rfl
 ·refine lookK_sound (oi:=none) (cs:=[]) (ms:=ms) (ms':=ms) (q:=[KeyTy P kt kagg fs,KeyNo ents kc]) hc ho hu hx hb hrel hy ?_ ⟨q1,hno⟩
  unfold actLookK
  simp only [hkc,hfs,hz]
  rw [(zeroEl_ent hz).1]
theorem lookup_sound{o:Oper}{a:Act}{t:TypeId}{x y:Operand}{ok:Bool}{vs:List SB}{r:SB}{ms':List (Option (Option MO))}{q:List Prop}{h:Hint}(hc:Core B E m w)(ho:o.op=.lookup t x y ok) 
  (hv:Vals E a.eval [x,y] vs) (hact:actLookup P t ok vs ((Op.names o.op o.dst vs).map (getM m)) h=some (r,ms',q)) (hq:allP q):Done P B E m r o a w:=by
 obtain ⟨v1,v2,rfl,hx,hy⟩:=vals2 hv
 unfold actLookup at hact
 rw [ho] at hact
 split at hact
 case h_2=>cases hact
 rename_i kt et hu
 split at hact
 ·rename_i n key oi cs heq
  cases heq
  split at hact
  case h_2=>cases hact
  rename_i kagg agg ents hms
  have hm:m[n]?=some (some (.omap kagg agg ents)):=by
   simp only [Op.names,List.map_cons,List.map_nil] at hms
   have:=(List.cons.inj hms).1
   simpa [getM] using this
  obtain ⟨b,es,hmp,hb,hrel⟩:=hc.mem n _ hm
  have hxb:a.eval x=.map (some b):=by
   obtain ⟨b',hb',hu'⟩:∃ b,E.mp n=some b∧a.eval x=.map (some b):=relSB_c hx
   rw [hmp] at hb'
   cases hb'
   exact hu'
  exact lookK_sound hc ho hu hxb hb hrel hy hact hq
 ·rename_i kagg agg ents key oi cs heq
  cases heq
  obtain ⟨b,es,hxb,hK,hrel⟩:=kmap_rel (relSB_c hx:RelK E.K (.kmap kagg agg ents) (a.eval x))
  exact lookK_sound hc ho hu hxb (hc.know _ _ hK) hrel hy hact hq
 ·rename_i n key bb cs heq
  cases heq
  split at hact
  case h_2=>cases hact
  rename_i kagg agg ents hms
  have hm:m[n]?=some (some (.omap kagg agg ents)):=by
   simp only [Op.names,List.map_cons,List.map_nil] at hms
   have:=(List.cons.inj hms).1
   simpa [getM] using this
  obtain ⟨b,es,hmp,hb,hrel⟩:=hc.mem n _ hm
  have hxb:a.eval x=.map (some b):=by
   obtain ⟨b',hb',hu'⟩:∃ b,E.mp n=some b∧a.eval x=.map (some b):=relSB_c hx
   rw [hmp] at hb'
   cases hb'
   exact hu'
  exact lookA_sound hc ho hu hxb hb hrel hy hact hq
 ·rename_i kagg agg ents key bb cs heq
  cases heq
  obtain ⟨b,es,hxb,hK,hrel⟩:=kmap_rel (relSB_c hx:RelK E.K (.kmap kagg agg ents) (a.eval x))
  exact lookA_sound hc ho hu hxb (hc.know _ _ hK) hrel hy hact hq
 ·rename_i agg ents k key i heq
  cases heq
  have hck:=(ck_some hact).1
  replace hact:=(ck_some hact).2
  have hd:=isIntT_spec hck
  have e2:=relSB_int hy
  obtain ⟨b,es,hxb,hK,hrel⟩:=kmap_rel (relSB_c hx:RelK E.K (.kmap false agg ents) (a.eval x))
  have hb:=hc.know _ _ hK
  have hkey:MapKept.IsKey (.int k) (.int k key):=by simp [MapKept.IsKey]
  have hckk:∀ em,(Instr.checkKey em 10000 kt (.int k key)).run P w=.ok () w:=fun em=>MapKept.run_checkKey hd hkey em 9999
  split at hact
  case h_2=>cases hact
  rename_i ks hks
  split at hact
  case h_2=>cases hact
  rename_i en hen
  have hckl:=(ck_some hact).1
  replace hact:=(ck_some hact).2
  cases hact
  obtain ⟨hq1,hq2⟩:=allP_cons.1 hq
  have hkeys:=keys_of (K:=E.K) (es:=es.toList) hks (by simpa using hrel.1) (fun j e hje=>(hrel.2 j e (by simpa using hje)).1)
  have hilt:i<ents.length:=(List.getElem?_eq_some_iff.1 hen).1
  have hie:i<es.size:=by rw [hrel.1];exact hilt
  have hei:es[i]?=some es[i]:=by simp [hie]
  have hfind:=findNow_at (d:=k) (a:=key) (i:=0) hkeys hq1 hq2 (e:=es[i]) (by simp [hie])
  have hend:ents.getD i ([],[])=en:=by simp [gE,hen]
  have hr:=(hrel.2 i _ hei).2.1
  rw [hend] at hr
  refine done_value (u:=if ok then .tuple #[es[i].val,.bool true] else es[i].val) hc ?_ (lookRes_rel (entCV_rel hckl hr.1 hr.2))
  simp only [execOp,ho,Instr.lookup,Sem.run_bind,run_underlying hu,Result.andThen_ok,hxb,e2,MapKept.run_getObj_map hb,Sem.run_pure,hckk,MapKept.run_findKey hd hfind,Nat.zero_add]
 ·rename_i agg ents k key heq
  cases heq
  have hck:=(ck_some hact).1
  replace hact:=(ck_some hact).2
  have hd:=isIntT_spec hck
  have e2:=relSB_int hy
  obtain ⟨b,es,hxb,hK,hrel⟩:=kmap_rel (relSB_c hx:RelK E.K (.kmap false agg ents) (a.eval x))
  have hb:=hc.know _ _ hK
  have hkey:MapKept.IsKey (.int k) (.int k key):=by simp [MapKept.IsKey]
  have hckk:∀ em,(Instr.checkKey em 10000 kt (.int k key)).run P w=.ok () w:=fun em=>MapKept.run_checkKey hd hkey em 9999
  split at hact
  case h_2=>cases hact
  rename_i ks hks
  split at hact
  case h_2=>cases hact
  rename_i z hz
  have hckl:=(ck_some hact).1
  replace hact:=(ck_some hact).2
  cases hact
  simp only [Bool.and_eq_true] at hckl
  have hkeys:=keys_of (K:=E.K) (es:=es.toList) hks (by simpa using hrel.1) (fun j e hje=>(hrel.2 j e (by simpa using hje)).1)
  have hfind:=findNow_none (d:=k) (a:=key) (i:=0) hkeys hq
  have hval:RelCV E (match isAggT P et with | true=>.agg (z.cells.toList.map valC) | false=>.c (valC z)) z:=by
   have h2:=hckl.2
   revert h2
   cases isAggT P et with
   | true =>
    intro h2
    cases z<;>simp at h2
    exact ⟨_,rfl,zero_cells hckl.1⟩
   | false =>
    intro h2
    exact ⟨Rel.of_relK (valC_rel z h2),h2⟩
  refine done_value (u:=if ok then .tuple #[z,.bool false] else z) hc ?_ (lookRes_rel hval)
  simp only [execOp,ho,Instr.lookup,Sem.run_bind,run_underlying hu,Result.andThen_ok,hxb,e2,MapKept.run_getObj_map hb,Sem.run_pure,hckk,MapKept.run_findKey hd hfind,run_zeroValue hz]
 ·cases hact
theorem sameBits_refl{kc:List C}{fs:List Flat}{kagg:Bool}{u:Value}(hf:flatOf kc=some fs)(hu:RelLK E.K kc u.cells∧oneOr kagg u):Instr.sameBits 10000 u u=true:=by
 obtain ⟨l1,r1⟩:=relLK_list hu.1
 obtain ⟨l2,f2⟩:=flat_val (E:=E) hf l1 r1
 have key:∀ (n:Nat) (v:Value),v∈u.cells.toList→Instr.sameBits n v v=true:=by
  intro n v hv
  obtain ⟨j,hj,rfl⟩:=List.getElem_of_mem hv
  have hjf:j<fs.length:=by rw [← l2];exact hj
  have:=f2 j fs[j] u.cells.toList[j] (List.getElem?_eq_getElem hjf) (List.getElem?_eq_getElem hj)
  generalize u.cells.toList[j]=v at this
  generalize fs[j]=f at this
  cases f with
  | int k=>obtain ⟨n,rfl⟩:=this;simp [Instr.sameBits]
  | bool=>obtain ⟨b,rfl⟩:=this;simp [Instr.sameBits]
  | str=>obtain ⟨s,rfl⟩:=this;simp only [Instr.sameBits];exact (show (s.data==s.data)=true from beq_self_eq_true _)
 cases kagg with
 | true =>
  obtain ⟨arr,rfl⟩:=hu.2
  simp only [Instr.sameBits,beq_self_eq_true,Bool.true_and,List.all_eq_true]
  rintro ⟨x,y⟩ hxy
  obtain ⟨j,hj,he⟩:=List.getElem_of_mem hxy
  simp only [List.getElem_zip,Prod.mk.injEq] at he
  obtain ⟨rfl,h2⟩:=he
  rw [← h2]
  exact key _ _ (by simp [Value.cells])
 | false =>
  exact key _ _ (by rw [oneOr_cells hu.2];simp)
theorem entry_sound{o:Oper}{a:Act}{t:TypeId}{x y:Operand}{vs:List SB}{r:SB}{ms':List (Option (Option MO))}{q:List Prop}{h:Hint}(hc:Core B E m w)(ho:o.op=.mapEntry t x y) 
  (hv:Vals E a.eval [x,y] vs) (hact:actEntry P t vs ((Op.names o.op o.dst vs).map (getM m)) h=some (r,ms',q)) (hq:allP q):Done P B E (putM m (Op.names o.op o.dst vs) ms') r o a w:=by
 obtain ⟨v1,v2,rfl,hx,hy⟩:=vals2 hv
 unfold actEntry at hact
 rw [ho] at hact ⊢
 split at hact
 case h_2=>cases hact
 rename_i kt et hu
 split at hact
 case h_2=>cases hact
 rename_i n key kagg agg ents oi cs heq hms
 cases heq
 have hm:m[n]?=some (some (.omap kagg agg ents)):=by
  simp only [Op.names,List.map_cons,List.map_nil] at hms
  have:=(List.cons.inj hms).1
  simpa [getM] using this
 obtain ⟨b,es,hmp,hb,hrel⟩:=hc.mem n _ hm
 have hxb:a.eval x=.map (some b):=by
  obtain ⟨b',hb',hu'⟩:∃ b,E.mp n=some b∧a.eval x=.map (some b):=relSB_c hx
  rw [hmp] at hb'
  cases hb'
  exact hu'
 split at hact
 case h_2=>cases hact
 rename_i kc hkc
 split at hact
 case h_2=>cases hact
 rename_i fs hfs
 have hku:=keyOfSB_spec hkc hy
 split at hact
 ·rename_i i
  have hck:=(ck_some hact).1
  replace hact:=(ck_some hact).2
  cases hact
  obtain ⟨q1,q23⟩:=allP_cons.1 hq
  obtain ⟨q2,q3⟩:=allP_cons.1 q23
  obtain ⟨f1,_,f3⟩:=find_run (w:=w) q1 hfs hku hrel
  obtain ⟨e,he,hfind,hek,hvv,hov⟩:=f3 i q2
  have q3':(ents.getD i ([],[])).2=cs:=q3
  rw [q3'] at hvv
  have hmod:es.modify i (fun e=>{ e with key:=a.eval y })=es:=by
   refine Array.ext (by simp) fun j h1 h2=>?_
   rw [Array.getElem_modify]
   split
   ·rename_i hij
    subst hij
    have:es[i]=e:=by have:=(Array.getElem?_eq_some_iff.1 he).2;exact this
    rw [this,← hek]
   ·rfl
  have hborn:e.born=i:=(hrel.2 i e he).2.2
  have hrun:(execOp a.eval o).run P w=.ok (.value (.tuple #[e.val,goInt i])) { w with heap:=w.heap.setIfInBounds b (.map es es.size) }:=by
   simp only [execOp,ho,Instr.mapEntry,Sem.run_bind,run_underlying hu,Result.andThen_ok,hxb,MapKept.run_getObj_map hb,f1,hfind,he,Option.map_some,Option.getD_some,Instr.keyThatStays,hek,sameBits_refl hfs hku,if_true,Sem.run_pure,hmod,MapKept.run_setObj_map _ hb,hborn]
  intro next Q hn
  refine wpIn_of (by intro c hc;rw [ho] at hc;cases hc) ?_
  rw [hrun]
  refine hn _ _ E (Env.Le.refl E) (hc.setMap hm hmp hb hrel) ?_
  refine ⟨#[e.val,goInt i],rfl,rfl,fun j hj=>?_⟩
  match j,hj with
  | 0,_=>exact entCV_rel hck hvv hov
  | 1,_=>exact ⟨RelK.int _ _,rfl⟩
 ·split at hact
  case h_2=>cases hact
  rename_i z zc hz
  cases hact
  obtain ⟨q1,q2⟩:=allP_cons.1 hq
  obtain ⟨f1,f2,_⟩:=find_run (w:=w) q1 hfs hku hrel
  obtain ⟨v,hzv,hzr,hzc,hzo⟩:=zeroEl_spec (E:=E) hz
  have hp:=hrel.push (en:=(kc,zc)) (e:={ key:=a.eval y,val:=v,born:=es.size }) ⟨hku,hzc,hzo⟩ rfl
  have hrun:(execOp a.eval o).run P w=.ok (.value (.tuple #[v,goInt es.size])) { w with heap:=w.heap.setIfInBounds b (.map (es.push { key:=a.eval y,val:=v,born:=es.size }) (es.size+1)) }:=by
   simp only [execOp,ho,Instr.mapEntry,Sem.run_bind,run_underlying hu,Result.andThen_ok,hxb,MapKept.run_getObj_map hb,f1,f2 q2,run_zeroValue hzv,MapKept.run_setObj_map _ hb,Sem.run_pure]
  intro next Q hn
  refine wpIn_of (by intro c hc;rw [ho] at hc;cases hc) ?_
  rw [hrun]
  have h2:=hc.setMap hm hmp hb hp
  rw [Array.size_push] at h2
  refine hn _ _ E (Env.Le.refl E) h2 ?_
  refine ⟨#[v,goInt es.size],rfl,rfl,fun j hj=>?_⟩
  match j,hj with
  | 0,_=>exact hzr
  | 1,_=>rw [← hrel.1];exact ⟨RelK.int _ _,rfl⟩
theorem MapRel.setAt{K:Know}{kagg agg:Bool}{ents:List (List C×List C)}{es:Array MapEntry}{i:Nat}{cs:List C}{k u:Value}{e:MapEntry}(hrel:MapRel K kagg agg ents es) 
  (h1:RelLK K cs u.cells∧oneOr agg u) (hi:i<ents.length) (he:es[i]?=some e) (hk:e.key=k):MapRel K kagg agg (Go.Sym.setEnt ents i cs) (es.modify i fun e=>{ e with key:=k,val:=u }):=by
 have h:=hrel.setEnt h1 hi
 have e1:(es.modify i fun e=>{ e with key:=k,val:=u })=es.modify i fun e=>{ e with val:=u }:=by
  refine Array.ext (by simp) fun j h1 h2=>?_
  rw [Array.getElem_modify,Array.getElem_modify]
  split
  ·rename_i hij
   subst hij
   have hie:i<es.size:=by simpa using h1
   have:es[i]=e:=(Array.getElem?_eq_some_iff.1 he).2
   rw [this,← hk]
  ·rfl
 rw [e1];exact h
theorem put_sound{o:Oper}{a:Act}{t:TypeId}{x y z:Operand}{vs:List SB}{r:SB}{ms':List (Option (Option MO))}{q:List Prop}{h:Hint}(hc:Core B E m w)(ho:o.op=.mapUpdate t x y z∨o.op=.insert t x y z) 
  (hv:Vals E a.eval [x,y,z] vs) (hact:actPut P t vs ((Op.names o.op o.dst vs).map (getM m)) h=some (r,ms',q)) (hq:allP q):Done P B E (putM m (Op.names o.op o.dst vs) ms') r o a w:=by
 obtain ⟨v1,v2,v3,rfl,hx,hy,hz⟩:=vals3 hv
 unfold actPut at hact
 split at hact
 case h_2=>cases hact
 rename_i kt et hu
 split at hact
 case h_2=>cases hact
 rename_i n key u kagg agg ents ents' heq hms
 cases heq
 have hnm:Op.names o.op o.dst [.v (.c (.omap n)),v2,.v u]=[n]:=by rcases ho with ho | ho<;>rw [ho]<;>rfl
 rw [hnm] at hms ⊢
 have hm:m[n]?=some (some (.omap kagg agg ents)):=by
  simp only [List.map_cons,List.map_nil] at hms
  have:=(List.cons.inj hms).1
  simpa [getM] using this
 obtain ⟨b,es,hmp,hb,hrel⟩:=hc.mem n _ hm
 have hxb:a.eval x=.map (some b):=by
  obtain ⟨b',hb',hu'⟩:∃ b,E.mp n=some b∧a.eval x=.map (some b):=relSB_c hx
  rw [hmp] at hb'
  cases hb'
  exact hu'
 split at hact
 case h_2=>cases hact
 rename_i kc hkc
 split at hact
 case h_2=>cases hact
 rename_i fs hfs
 have hku:=keyOfSB_spec hkc hy
 have hck:=(ck_some hact).1
 replace hact:=(ck_some hact).2
 cases hact
 simp only [Bool.and_eq_true] at hck
 obtain ⟨q1,q2⟩:=allP_cons.1 hq
 have q2:Put ents kc (cvCells u) ents':=q2
 have hz:RelCV E u (a.eval z):=hz
 have h1:RelLK E.K (cvCells u) (a.eval z).cells∧oneOr agg (a.eval z):=by
  refine ⟨cvCells_relK hck.1 hz,?_⟩
  have hag:=hck.2
  cases u with
  | c x =>
   cases agg with
   | true=>cases hag
   | false=>exact hz.2
  | agg cs =>
   cases agg with
   | true=>obtain ⟨arr,h1,_⟩:=hz;exact ⟨arr,h1⟩
   | false=>cases hag
  | pagg cs=>cases hck.1
 obtain ⟨f1,f2,f3⟩:=find_run (w:=w) q1 hfs hku hrel
 have hnd:∀ c,o.op≠.defer c:=by rcases ho with ho | ho<;>(intro c hc;rw [ho] at hc;cases hc)
 rcases q2 with ⟨hno,rfl⟩ | ⟨i,hat,rfl⟩
 ·have hrun:(execOp a.eval o).run P w=.ok .skip { w with heap:=w.heap.setIfInBounds b (.map (es.push { key:=a.eval y,val:=a.eval z,born:=es.size }) (es.size+1)) }:=by
   rcases ho with ho | ho <;>
    simp only [execOp,ho,Instr.mapUpdate,Sem.run_bind,run_underlying hu,Result.andThen_ok,hxb,MapKept.run_getObj_map hb,f1,f2 hno,MapKept.run_setObj_map _ hb,Sem.run_pure]
  intro next Q hn
  refine wpIn_of hnd ?_
  rw [hrun]
  have hp:=hrel.push (en:=(kc,cvCells u)) (e:={ key:=a.eval y,val:=a.eval z,born:=es.size }) ⟨hku,h1⟩ rfl
  have h2:=hc.setMap hm hmp hb hp
  rw [Array.size_push] at h2
  exact hn undef _ E (Env.Le.refl E) h2 ⟨#[],rfl,rfl,fun j hj=>by simp at hj⟩
 ·obtain ⟨e,he,hfind,hek,hvv,hov⟩:=f3 i hat
  have hrun:(execOp a.eval o).run P w=.ok .skip { w with heap:=w.heap.setIfInBounds b (.map (es.modify i fun e=>{ e with key:=a.eval y,val:=a.eval z }) es.size) }:=by
   rcases ho with ho | ho <;>
    simp only [execOp,ho,Instr.mapUpdate,Sem.run_bind,run_underlying hu,Result.andThen_ok,hxb,MapKept.run_getObj_map hb,f1,hfind,he,Option.map_some,Option.getD_some,Instr.keyThatStays,hek,sameBits_refl hfs hku,if_true,MapKept.run_setObj_map _ hb,Sem.run_pure]
  intro next Q hn
  refine wpIn_of hnd ?_
  rw [hrun]
  have h2:=hc.setMap hm hmp hb (hrel.setAt (i:=i) h1 hat.lt he hek)
  rw [Array.size_modify] at h2
  exact hn undef _ E (Env.Le.refl E) h2 ⟨#[],rfl,rfl,fun j hj=>by simp at hj⟩
theorem entryStore_sound{o:Oper}{a:Act}{t:TypeId}{x y z:Operand}{vs:List SB}{r:SB}{ms':List (Option (Option MO))}{q:List Prop}(hc:Core B E m w)(ho:o.op=.entryStore t x y z) 
  (hv:Vals E a.eval [x,y,z] vs) (hact:actEntryStore vs ((Op.names o.op o.dst vs).map (getM m))=some (r,ms',q)) (hq:allP q):Done P B E (putM m (Op.names o.op o.dst vs) ms') r o a w:=by
 unfold actEntryStore at hact
 rw [ho] at hact ⊢
 split at hact
 case h_2=>cases hact
 rename_i n k i u kagg agg ents hms
 have hck:=(ck_some hact).1
 replace hact:=(ck_some hact).2
 cases hact
 simp only [Bool.and_eq_true] at hck
 have hm:m[n]?=some (some (.omap kagg agg ents)):=by
  simp only [Op.names,List.map_cons,List.map_nil] at hms
  have:=(List.cons.inj hms).1
  simpa [getM] using this
 obtain ⟨b,es,hmp,hb,hrel⟩:=hc.mem n _ hm
 have hx:a.eval x=.map (some b):=by
  obtain ⟨b',hb',hu'⟩:∃ b,E.mp n=some b∧a.eval x=.map (some b):=relSB_c (hv.2 0 x _ rfl rfl)
  rw [hmp] at hb'
  cases hb'
  exact hu'
 have hy:=relSB_int (hv.2 1 y _ rfl rfl)
 have hz:RelCV E u (a.eval z):=hv.2 2 z _ rfl rfl
 have hi:0≤i∧i<(ents.length:Int):=hq
 have hie:i.toNat<es.size:=by rw [hrel.1];omega
 have h1:RelLK E.K (cvCells u) (a.eval z).cells∧oneOr agg (a.eval z):=by
  refine ⟨cvCells_relK hck.1 hz,?_⟩
  have hag:=hck.2
  cases u with
  | c x =>
   cases agg with
   | true=>cases hag
   | false=>exact hz.2
  | agg cs =>
   cases agg with
   | true=>obtain ⟨arr,h1,_⟩:=hz;exact ⟨arr,h1⟩
   | false=>cases hag
  | pagg cs=>cases hck.1
 have hfind:es.findIdx? (fun e=>(e.born:Int)==i)=some i.toNat:=by
  rw [Array.findIdx?_eq_some_iff_getElem]
  have hbj:∀ j (h:j<es.size),es[j].born=j:=fun j h=>(hrel.2 j es[j] (by simp [h])).2.2
  refine ⟨hie,?_,fun j hji=>?_⟩
  ·rw [hbj];simp;omega
  ·rw [hbj];simp;omega
 have hrun:(execOp a.eval o).run P w=.ok .skip { w with heap:=w.heap.setIfInBounds b (.map (es.modify i.toNat fun e=>{ e with val:=a.eval z }) es.size) }:=by
  simp only [execOp,ho,Instr.entryStore,Sem.run_bind,Result.andThen_ok,hx,hy,MapKept.run_getObj_map hb,asInt,asIntOf,Sem.run_pure,hfind,MapKept.run_setObj_map _ hb]
 intro next Q hn
 refine wpIn_of (by intro c hc;rw [ho] at hc;cases hc) ?_
 rw [hrun]
 have h2:=hc.setMap hm hmp hb (hrel.setEnt (i:=i.toNat) h1 (by omega))
 rw [Array.size_modify] at h2
 exact hn _ _ E (Env.Le.refl E) h2 ⟨#[],rfl,rfl,fun j hj=>by simp at hj⟩
end Go.Sym
namespace Go.Sym
open Go.RowKit
variable {P:Program} {B:Base P} {E:Env} {m:List (Option MO)} {w:World}
theorem move_sound{o:Oper}{a:Act}{x:Operand}{v:SB}(hc:Core B E m w)(ho:o.op=.move x∨o.op=.assign x)(hv:RelSB E v (a.eval x)):Done P B E m v o a w:=by
 refine done_value hc ?_ hv
 rcases ho with ho | ho<;>simp only [execOp,ho,Sem.run_pure]
theorem nilCheck_sound{o:Oper}{a:Act}{x:Operand}{vs:List SB}{r:SB}{ms ms':List (Option (Option MO))}{q:List Prop}(hc:Core B E m w)(ho:o.op=.nilCheck x) 
  (hv:Vals E a.eval [x] vs) (hact:actNilCheck vs ms=some (r,ms',q)):Done P B E m r o a w:=by
 obtain ⟨v,rfl,hx⟩:=vals1 hv
 unfold actNilCheck at hact
 split at hact
 ·rename_i n off heq
  cases heq
  cases hact
  obtain ⟨b,hb,he⟩:RelP E n off (a.eval x):=relSB_c hx
  refine done_value hc ?_ hx
  simp only [execOp,ho,he,Sem.run_pure]
 ·rename_i f cs heq
  cases heq
  cases hact
  refine done_value hc ?_ hx
  have hk:RelK E.K (.clo f cs) (a.eval x):=relSB_c hx
  generalize he:a.eval x=u at hk
  cases hk
  simp only [execOp,ho,he,Sem.run_pure]
 ·rename_i cs off heq
  cases heq
  cases hact
  refine done_value hc ?_ hx
  have hk:RelK E.K (.kptr cs off) (a.eval x):=relSB_c hx
  generalize he:a.eval x=u at hk
  cases hk
  simp only [execOp,ho,he,Sem.run_pure]
 ·rename_i sz n f i off heq
  cases heq
  cases hact
  refine done_value hc ?_ hx
  have hk:RelK E.K (.kel sz n f i off) (a.eval x):=relSB_c hx
  generalize he:a.eval x=u at hk
  cases hk
  simp only [execOp,ho,he,Sem.run_pure]
 ·cases hact
theorem act_sound{o:Oper}{a:Act}{vs:List SB}{r:SB}{ms':List (Option (Option MO))}{q:List Prop}{h:Hint}(hF:h.elder=true→∀ b,¬ B.W b)(hc:Core B E m w)(hv:Vals E a.eval o.op.operands.toList vs) 
  (hact:act P o.op o.dst vs ((Op.names o.op o.dst vs).map (getM m)) h=some (r,ms',q)) (hq:allP q) :
  Done P B E (if Op.wr o.op h then putM m (Op.names o.op o.dst vs) ms' else m) r o a w:=by
 generalize hms:(Op.names o.op o.dst vs).map (getM m)=ms at hact
 cases ho:o.op with
 | move x =>
  simp only [ho,act] at hact
  rw [ho] at hv
  obtain ⟨v,rfl,hx⟩:=vals1 hv
  cases hact
  exact move_sound hc (.inl ho) hx
 | assign x =>
  simp only [ho,act] at hact
  rw [ho] at hv
  obtain ⟨v,rfl,hx⟩:=vals1 hv
  cases hact
  exact move_sound hc (.inr ho) hx
 | alloc t =>
  simp only [ho,act] at hact
  simp only [Op.wr,Op.writes,if_true,← ho]
  exact alloc_sound hc ho (by rw [hms];exact hact)
 | box t x =>
  simp only [ho,act] at hact
  cases h with
  | imm=>exact boxImm_sound hc ho (by simpa [ho,Op.operands] using hv) hact
  | _ =>
   simp only [Op.wr,Op.writes,if_true,← ho]
   exact box_sound hc ho (by simpa [ho,Op.operands] using hv) (by rw [hms];exact hact)
 | buildSlice t len ps =>
  simp only [ho,act] at hact
  rw [← ho]
  exact buildSlice_sound hc ho (by simpa [ho,Op.operands] using hv) (by rw [hms];exact hact) hq
 | makeSlice t x y =>
  simp only [ho,act] at hact
  cases h with
  | frz n f =>
   simp only [Op.wr,Bool.false_eq_true,if_false]
   exact makeFrz_sound hc ho (by simpa [ho,Op.operands] using hv) hact hq
  | _ =>
   simp only [Op.wr,Op.writes,if_true,← ho]
   exact makeSlice_sound hc ho (by simpa [ho,Op.operands] using hv) (by rw [hms];exact hact) hq
 | makeMap t r =>
  cases r with
  | some r=>simp [ho,act] at hact
  | none =>
   simp only [ho,act] at hact
   simp only [Op.wr,Op.writes,if_true,← ho]
   exact makeMap_sound hc ho (by rw [hms];exact hact)
 | insert t x y z =>
  simp only [ho,act] at hact
  simp only [Op.wr,Op.writes,if_true,← ho]
  unfold actInsertH at hact
  split at hact
  ·exact put_sound hc (.inr ho) (by simpa [ho,Op.operands] using hv) (by rw [hms];exact hact) hq
  ·exact insert_sound hc ho (by simpa [ho,Op.operands] using hv) (by rw [hms];exact hact) hq
 | mapUpdate t x y z =>
  simp only [ho,act] at hact
  simp only [Op.wr,Op.writes,if_true,← ho]
  exact put_sound hc (.inl ho) (by simpa [ho,Op.operands] using hv) (by rw [hms];exact hact) hq
 | lookup t x y ok =>
  simp only [ho,act] at hact
  simp only [Op.wr,Op.writes,Bool.false_eq_true,if_false]
  exact lookup_sound hc ho (by simpa [ho,Op.operands] using hv) (by rw [hms];exact hact) hq
 | mapEntry t x y =>
  simp only [ho,act] at hact
  simp only [Op.wr,Op.writes,if_true,← ho]
  exact entry_sound hc ho (by simpa [ho,Op.operands] using hv) (by rw [hms];exact hact) hq
 | entryStore t x y z =>
  simp only [ho,act] at hact
  simp only [Op.wr,Op.writes,if_true,← ho]
  exact entryStore_sound hc ho (by simpa [ho,Op.operands] using hv) (by rw [hms];exact hact) hq
 | load t x =>
  simp only [ho,act] at hact
  show Done P B E m r o a w
  obtain ⟨q0,hact0,hq0⟩:=actLoadH_some hact hq
  exact load_sound hc ho (by simpa [ho,Op.operands] using hv) (by rw [hms];exact hact0) hq0
 | store t x y =>
  simp only [ho,act] at hact
  simp only [Op.wr,Op.writes,if_true,← ho]
  obtain ⟨q0,hact0,hq0⟩:=actStoreH_some hact hq
  exact store_sound hc ho (by simpa [ho,Op.operands] using hv) (by rw [hms];exact hact0) hq0
 | nilCheck x =>
  simp only [ho,act] at hact
  exact nilCheck_sound hc ho (by simpa [ho,Op.operands] using hv) hact
 | binOp op t x y t' =>
  simp only [ho,act] at hact
  split at hact
  ·exact lit_sound hc ho (by simpa [ho,Op.operands] using hv) hact hq
  ·exact bin_sound hc ho (by simpa [ho,Op.operands] using hv) hact hq
 | unOp op t x =>
  simp only [ho,act] at hact
  exact un_sound hc ho (by simpa [ho,Op.operands] using hv) hact
 | convert s t x =>
  simp only [ho,act] at hact
  split at hact
  ·exact bytes_sound hc ho (by simpa [ho,Op.operands] using hv) hact
  ·exact convert_sound hc ho (by simpa [ho,Op.operands] using hv) hact
 | fieldAddr t x fl =>
  simp only [ho,act] at hact
  exact fieldAddr_sound hc ho hms.symm (by simpa [ho,Op.operands] using hv) hact hq
 | field t x fl =>
  simp only [ho,act] at hact
  exact field_sound hc ho (by simpa [ho,Op.operands] using hv) hact hq
 | indexAddr t x y =>
  simp only [ho,act] at hact
  exact indexAddr_sound hc ho hms.symm (by simpa [ho,Op.operands] using hv) hact hq
 | index t x y =>
  simp only [ho,act] at hact
  obtain ⟨q0,hact0,hq0⟩:=actIndexH_some hact hq
  exact index_sound hc ho (by simpa [ho,Op.operands] using hv) hact0 hq0
 | extract x i =>
  simp only [ho,act] at hact
  exact extract_sound hc ho (by simpa [ho,Op.operands] using hv) hact
 | build t ps =>
  simp only [ho,act] at hact
  exact build_sound hc ho (by simpa [ho,Op.operands] using hv) hact
 | slice t x lo hi mx =>
  simp only [ho,act] at hact
  exact sliceArr_sound hc ho (by simpa [ho,Op.operands] using hv) hact hq
 | makeFunc fn first captured =>
  cases fn with
  | func f =>
   simp only [ho,act] at hact
   split at hact
   ·rename_i h1
    split at hact
    ·rename_i cs hcs
     cases hact
     exact closure_sound hc ho h1 (by simpa [ho,Op.operands] using hv) hcs
    ·split at hact
     ·rename_i ps hps
      cases hact
      exact oclosure_sound hc ho h1 (by simpa [ho,Op.operands] using hv) hps
     ·cases hact
   ·split at hact
    ·rename_i h1
     split at hact
     ·rename_i cs hcs
      cases hact
      exact mclosure_sound hc ho h1 (by simpa [ho,Op.operands] using hv) hcs
     split at hact
     ·rename_i ps hps
      cases hact
      exact bclosure_sound hc ho h1 (by simpa [ho,Op.operands] using hv) hps
     ·cases hact
    ·cases hact
  | _=>simp [ho,act] at hact
 | call c =>
  simp only [ho,act] at hact
  rw [ho] at hv
  cases hcal:c.callee with
  | value f =>
   simp only [hcal] at hact
   have hv':Vals E a.eval (f :: c.args.toList) vs:=by simpa [Op.operands,Call.operands,hcal] using hv
   have:Op.wr (.call c) h=false:=Op.wr_le <| by
    obtain ⟨callee,args,argTypes⟩:=c
    simp only at hcal
    subst hcal
    rfl
   simp only [this,Bool.false_eq_true,if_false]
   exact callee_sound hc ho hcal hv' hact hq
  | invoke r n=>simp [hcal] at hact
  | builtin b =>
   have hv':Vals E a.eval c.args.toList vs:=by simpa [Op.operands,Call.operands,hcal] using hv
   cases b<;>simp only [hcal] at hact<;>(try (cases hact;done))
   case len =>
    have hw:Op.wr (.call c) h=false:=Op.wr_le <| by
     obtain ⟨callee,args,argTypes⟩:=c
     simp only at hcal
     subst hcal
     rfl
    simp only [hw,Bool.false_eq_true,if_false]
    split at hact
    ·rename_i t ht
     have h1:∃ x,c.args.toList=[x]:=by
      unfold actLen at hact
      split at hact
      ·have:=hv'.1
       match hl:c.args.toList,this with
       | [x],_=>exact ⟨x,rfl⟩
      ·cases hact
     obtain ⟨x,hx⟩:=h1
     exact len_sound hc ho hcal hx ht hms.symm (by rwa [hx] at hv') hact hq
    ·cases hact
   case max =>
    have hw:Op.wr (.call c) h=false:=Op.wr_le <| by
     obtain ⟨callee,args,argTypes⟩:=c
     simp only at hcal
     subst hcal
     rfl
    simp only [hw,Bool.false_eq_true,if_false]
    unfold actMM at hact
    split at hact
    ·have h3:∃ x y z,c.args.toList=[x,y,z]:=by
      have:=hv'.1
      match hl:c.args.toList,this with
      | [x,y,z],_=>exact ⟨x,y,z,rfl⟩
     obtain ⟨x,y,z,hx⟩:=h3
     exact minmax3_sound (mx:=true) hc ho hcal hx (by rwa [hx] at hv') hact
    ·have h1:∃ x y,c.args.toList=[x,y]:=by
      unfold actMinMax at hact
      split at hact
      ·have:=hv'.1
       match hl:c.args.toList,this with
       | [x,y],_=>exact ⟨x,y,rfl⟩
      ·cases hact
     obtain ⟨x,y,hx⟩:=h1
     exact minmax_sound (mx:=true) hc ho hcal hx (by rwa [hx] at hv') hact
   case min =>
    have hw:Op.wr (.call c) h=false:=Op.wr_le <| by
     obtain ⟨callee,args,argTypes⟩:=c
     simp only at hcal
     subst hcal
     rfl
    simp only [hw,Bool.false_eq_true,if_false]
    unfold actMM at hact
    split at hact
    ·have h3:∃ x y z,c.args.toList=[x,y,z]:=by
      have:=hv'.1
      match hl:c.args.toList,this with
      | [x,y,z],_=>exact ⟨x,y,z,rfl⟩
     obtain ⟨x,y,z,hx⟩:=h3
     exact minmax3_sound (mx:=false) hc ho hcal hx (by rwa [hx] at hv') hact
    ·have h1:∃ x y,c.args.toList=[x,y]:=by
      unfold actMinMax at hact
      split at hact
      ·have:=hv'.1
       match hl:c.args.toList,this with
       | [x,y],_=>exact ⟨x,y,rfl⟩
      ·cases hact
     obtain ⟨x,y,hx⟩:=h1
     exact minmax_sound (mx:=false) hc ho hcal hx (by rwa [hx] at hv') hact
   case append =>
    have hw:Op.wr (.call c) h=true:=by
     obtain ⟨callee,args,argTypes⟩:=c
     simp only at hcal
     subst hcal
     rfl
    simp only [hw,if_true]
    rw [← ho]
    exact append_sound hc hF ho hcal hv' (by rw [hms];exact hact) hq
 | _=>simp [ho,act] at hact
def GOk(ops:Array Oper)(s:S):Prop:=
 ∀ (j:Nat) (b:Bool),s.g[j]?=some (some b)→∃ o d,ops[j]?=some o∧o.dst=some d∧(s.t[d]?=some (.b (.v (.c (.bool b))))∨∃ p,s.t[d]?=some (.may p (.v (.c (.bool b)))))
def PathOk(g:List (Option Bool))(p:Path):Prop:=∀ j b,(j,b)∈p→∃ x,g[j]?=some (some x)
def POk(s:S):Prop:=∀ (k:Nat) (p:Path) (x:SB),s.t[k]?=some (.may p x)→PathOk s.g p∧p≠[]
structure RSim {P:Program} (B:Base P) (E:Env) (ops:Array Oper) (s:S) (a:Act) (w:World):Prop where
 sim:Sim B E s a w
 gok:GOk ops s
 pok:POk s
theorem tmps_get{a:Act}{d:Nat}{u:Value}(hd:d<a.tmps.size)(h:a.tmps.getD d undef=u):a.tmps[d]?=some u:=by
 simp [hd] at h
 simp [hd,h]
theorem wanted_iff{ops:Array Oper}{s:S}{a:Act}{o:Oper}{p:Path}(hs:RSim B E ops s a w)(hp:guardPath ops s o=some p):
  Region.wanted o (yielded ops a.tmps)=holds s.g p∧PathOk s.g p:=by
 unfold guardPath at hp
 unfold Region.wanted
 cases hg:o.guard with
 | none =>
  simp only [hg] at hp
  cases hp
  exact ⟨rfl,fun j b h=>by cases h⟩
 | some jw =>
  obtain ⟨j,want⟩:=jw
  simp only [hg] at hp
  change (yielded ops a.tmps j==some want)=holds s.g p∧PathOk s.g p
  cases hdst:(ops[j]?).bind (·.dst) with
  | none=>simp [hdst] at hp
  | some d =>
   simp only [hdst] at hp
   split at hp
   ·rename_i d' b hd' hgj
    cases hd'
    obtain ⟨o',d',ho',hd',hslot⟩:=hs.gok j b hgj
    have hdd:d'=d:=by simp [ho',hd'] at hdst;exact hdst
    subst hdd
    have hy:yielded ops a.tmps j=match a.tmps[d']? with | some (.bool b)=>some b | _=>none:=by
     unfold yielded
     rw [hdst]
     rfl
    rcases hslot with hslot | ⟨p',hslot⟩
    ·rw [hslot] at hp
     simp only at hp
     cases hp
     have hlt:d'<a.tmps.size:=by rw [hs.sim.size];exact (List.getElem?_eq_some_iff.1 hslot).1
     have hb:=tmps_get hlt (relSB_bool (hs.sim.slot d' _ hslot))
     rw [hy,hb]
     refine ⟨?_,fun j' b' h=>?_⟩
     ·simp only [holds,hgj,Bool.true_and]
      cases b<;>cases want<;>rfl
     ·simp only [List.mem_singleton,Prod.mk.injEq] at h
      rw [h.1];exact ⟨b,hgj⟩
    ·rw [hslot] at hp
     simp only at hp
     cases hp
     have hlt:d'<a.tmps.size:=by rw [hs.sim.size];exact (List.getElem?_eq_some_iff.1 hslot).1
     have hsl:=hs.sim.slot d' _ hslot
     have hpok:=(hs.pok d' _ _ hslot).1
     refine ⟨?_,fun j' b' h=>?_⟩
     ·simp only [holds,hgj]
      cases hh:holds s.g p' with
      | true =>
       have hb:=tmps_get hlt (relSB_bool (hsl.1 hh))
       rw [hy,hb]
       cases b<;>cases want<;>rfl
      | false =>
       have hb:=tmps_get hlt (hsl.2 hh)
       rw [hy,hb]
       simp [undef]
     ·rcases List.mem_cons.1 h with h | h
      ·cases h;exact ⟨b,hgj⟩
      ·exact hpok j' b' h
   ·cases hp
theorem eqPath_eq:∀ {p q:Path},eqPath p q=true→p=q:=by
 intro p
 induction p with
 | nil=>intro q h;cases q<;>simp [eqPath] at h ⊢
 | cons x p ih =>
  intro q h
  obtain ⟨j,b⟩:=x
  cases q with
  | nil=>simp [eqPath] at h
  | cons y q =>
   obtain ⟨k,c⟩:=y
   simp only [eqPath,Bool.and_eq_true] at h
   obtain ⟨⟨h1,h2⟩,h3⟩:=h
   have e1:=Nat.eq_of_beq_eq_true h1
   have e3:=ih h3
   subst e1 e3
   cases b<;>cases c<;>first | rfl | simp at h2
theorem sfx_holds{g:List (Option Bool)}:∀ {p q:Path},sfx p q=true→holds g q=true→holds g p=true:=by
 intro p q
 induction q with
 | nil =>
  intro h hq
  simp only [sfx] at h
  rw [eqPath_eq h];exact hq
 | cons x q ih =>
  intro h hq
  simp only [sfx,Bool.or_eq_true] at h
  rcases h with h | h
  ·rw [eqPath_eq h];exact hq
  ·obtain ⟨j,b⟩:=x
   simp only [holds,Bool.and_eq_true] at hq
   exact ih h hq.1
theorem constSB_rel{v:Value}{x:SB}(h:constSB v=some x):RelSB E x v:=by
 cases v with
 | agg cs =>
  simp only [constSB] at h
  split at h
  ·rename_i hcs
   cases h
   exact ⟨cs,rfl,zero_cells (E:=E) (z:=.agg cs) hcs⟩
  ·cases h
 | tuple vs=>simp [constSB] at h
 | _ =>
  simp only [constSB] at h
  cases h
  exact ⟨Rel.of_relK (valC_rel _ rfl),rfl⟩
theorem ev_rel{s:S}{a:Act}{p:Path}{x:Operand}{v:SB}(hs:Sim B E s a w)(hp:holds s.g p=true)(h:s.ev p x=some v):RelSB E v (a.eval x):=by
 cases x with
 | tmp t =>
  simp only [S.ev] at h
  split at h
  ·rename_i y hy
   cases h
   exact hs.slot t _ hy
  ·rename_i k y hy
   cases h
   exact (hs.slot t _ hy).1
  ·rename_i q y hy
   split at h
   ·rename_i hq
    cases h
    exact (hs.slot t _ hy).1 (sfx_holds hq hp)
   ·cases h
  ·cases h
 | const u=>exact constSB_rel h
 | global g=>simp [S.ev] at h
 | func f =>
  simp only [S.ev] at h
  cases h
  exact ⟨RelK.clo f [] #[] rfl (fun j hj=>by simp at hj) (fun j hj=>by simp at hj),rfl⟩
theorem evAll_rel{s:S}{a:Act}{p:Path}(hs:Sim B E s a w)(hp:holds s.g p=true):∀ {xs:List Operand} {vs:List SB},evAll s p xs=some vs→Vals E a.eval xs vs:=by
 intro xs
 induction xs with
 | nil=>intro vs h;simp only [evAll] at h;cases h;exact ⟨rfl,fun j x v hj=>by simp at hj⟩
 | cons x xs ih =>
  intro vs h
  simp only [evAll] at h
  split at h
  ·rename_i v vs' h1 h2
   cases h
   have:=ih h2
   refine ⟨by simp [this.1],fun j y u hj hu=>?_⟩
   cases j with
   | zero=>simp at hj hu;subst hj hu;exact ev_rel hs hp h1
   | succ j=>exact this.2 j y u (by simpa using hj) (by simpa using hu)
  ·cases h
theorem armOf_rel{s:S}{a:Act}{p q:Path}{x:Operand}{v:SB}(hs:Sim B E s a w)(hp:holds s.g p=true)(h:armOf s p q x=some v)(hq:holds s.g q=true):RelSB E v (a.eval x):=by
 cases x with
 | tmp t =>
  simp only [armOf] at h
  split at h
  ·rename_i y hy
   cases h
   exact hs.slot t _ hy
  ·rename_i k y hy
   cases h
   exact (hs.slot t _ hy).1
  ·rename_i r y hy
   split at h
   ·rename_i hr
    cases h
    simp only [Bool.or_eq_true] at hr
    rcases hr with hr | hr
    ·exact (hs.slot t _ hy).1 (sfx_holds hr hp)
    ·exact (hs.slot t _ hy).1 (by rw [eqPath_eq hr];exact hq)
   ·cases h
  ·cases h
 | const u=>exact ev_rel hs hp (by simpa [armOf] using h)
 | global g=>exact ev_rel hs hp (by simpa [armOf] using h)
 | func f=>exact ev_rel hs hp (by simpa [armOf] using h)
theorem findDst_some{ops:Array Oper}{t j:Nat}(h:findDst ops t=some j):∃ o,ops[j]?=some o∧o.dst=some t:=by
 unfold findDst at h
 have:=List.find?_some h
 cases ho:(ops[j]?).bind (·.dst) with
 | none=>simp [ho] at this
 | some d =>
  simp only [ho] at this
  have hd:=Nat.eq_of_beq_eq_true this
  subst hd
  cases hj:ops[j]? with
  | none=>simp [hj] at ho
  | some o=>simp [hj] at ho;exact ⟨o,rfl,ho⟩
theorem pick_rel{ops:Array Oper}{s:S}{a:Act}{p:Path}{c x y:Operand}{v:SB}(hs:RSim B E ops s a w)(hp:holds s.g p=true)(h:pickVal ops s p c x y=some v):
  ∃ b,a.eval c=.bool b∧RelSB E v (if b then a.eval x else a.eval y):=by
 unfold pickVal at h
 split at h
 ·rename_i tc
  split at h
  ·rename_i j hj
   obtain ⟨o,ho,hd⟩:=findDst_some hj
   have arms:∀ {b:Bool} {q:Path},s.g[j]?=some (some b)→holds s.g q=true→pickArms s p x y b j q=some v→RelSB E v (if b then a.eval x else a.eval y):=by
    intro b q hgj hq h
    unfold pickArms at h
    split at h
    ·split at h
     ·rename_i z hz
      cases h
      cases b with
      | true=>exact rel_bool
      | false =>
       have:=armOf_rel hs.sim hp hz (by simp [holds,hq,hgj,bw])
       simpa using this
     ·cases h
    ·split at h
     ·rename_i z hz
      cases h
      cases b with
      | true =>
       have:=armOf_rel hs.sim hp hz (by simp [holds,hq,hgj,bw])
       simpa using this
      | false=>exact rel_bool
     ·cases h
    ·cases h
   split at h
   ·rename_i b b' hgj hslot
    obtain ⟨o',d',ho',hd',hsl⟩:=hs.gok j b hgj
    rw [ho] at ho'
    cases ho'
    rw [hd] at hd'
    cases hd'
    have hb:b'=b:=by
     rcases hsl with hsl | ⟨q,hsl⟩<;>rw [hslot] at hsl<;>cases hsl
     rfl
    subst hb
    exact ⟨b',relSB_bool (hs.sim.slot tc _ hslot),arms hgj rfl h⟩
   ·rename_i b q b' hgj hslot
    split at h
    ·rename_i hq
     obtain ⟨o',d',ho',hd',hsl⟩:=hs.gok j b hgj
     rw [ho] at ho'
     cases ho'
     rw [hd] at hd'
     cases hd'
     have hb:b'=b:=by
      rcases hsl with hsl | ⟨q,hsl⟩<;>rw [hslot] at hsl<;>cases hsl
      rfl
     subst hb
     have hhq:=sfx_holds hq hp
     exact ⟨b',relSB_bool ((hs.sim.slot tc _ hslot).1 hhq),arms hgj hhq h⟩
    ·cases h
   ·cases h
  ·cases h
 ·cases h
end Go.Sym
