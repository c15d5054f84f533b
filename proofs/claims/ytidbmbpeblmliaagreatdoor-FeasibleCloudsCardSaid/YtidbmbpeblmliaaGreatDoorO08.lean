/- Part of the proof of the statement that the claim's last text names: contracts of functions and laws of the symbolic layer. -/
import Derived.Test.YtidbmbpeblmliaaGreatDoorO07
set_option linter.unusedVariables false
set_option linter.unusedSimpArgs false
namespace Go.Sym
open Go.RowKit
variable {P:Program} {B:Base P} {E:Env} {w:World}
def C.ren(σ:Nat→Nat):C→C
 | .ptr n off=>.ptr (σ n) off
 | .row r n=>.row (σ r) n
 | .rel r n sz i off=>.rel (σ r) n sz i off
 | .oclo bd fn caps=>.oclo bd fn (caps.map fun p=>(σ p.1,p.2))
 | .omap r=>.omap (σ r)
 | c=>c
def CV.ren(σ:Nat→Nat):CV→CV
 | .c x=>.c (x.ren σ)
 | .agg cs=>.agg cs
 | .pagg cs=>.pagg (cs.map (C.ren σ))
def SB.ren(σ:Nat→Nat):SB→SB
 | .v x=>.v (x.ren σ)
 | .tup xs=>.tup (xs.map (CV.ren σ))
def MO.ren(σ:Nat→Nat):MO→MO
 | .pcells cs=>.pcells (cs.map (C.ren σ))
 | .tcells T cs=>.tcells T (cs.map (C.ren σ))
 | o=>o
def hasN(ns:List Nat)(n:Nat):Bool:=ns.any (Nat.beq n)
theorem hasN_iff{ns:List Nat}{n:Nat}:hasN ns n=true↔n∈ns:=by
 unfold hasN
 rw [List.any_eq_true]
 constructor
 ·rintro ⟨x,hx,h⟩;rw [Nat.eq_of_beq_eq_true h];exact hx
 ·intro h;exact ⟨n,h,Nat.beq_refl n⟩
def C.inN(ns:List Nat):C→Bool
 | .ptr n _=>hasN ns n
 | .row r _=>hasN ns r
 | .rel r _ _ _ _=>hasN ns r
 | .oclo _ _ caps=>caps.all fun p=>hasN ns p.1
 | .omap r=>hasN ns r
 | .yld _=>false
 | _=>true
def CV.inN(ns:List Nat):CV→Bool
 | .c x=>x.inN ns
 | .agg _=>true
 | .pagg cs=>cs.all (C.inN ns)
def SB.inN(ns:List Nat):SB→Bool
 | .v x=>x.inN ns
 | .tup xs=>xs.all (CV.inN ns)
def MO.inN(ns:List Nat):MO→Bool
 | .pcells cs=>cs.all (C.inN ns)
 | .tcells _ cs=>cs.all (C.inN ns)
 | .cnt _ _ _=>false
 | _=>true
def MO.kind:MO→Nat
 | .cells _=>0
 | .pcells _=>0
 | .tcells ..=>0
 | .row ..=>1
 | .gone=>1
 | .omap ..=>2
 | .cnt ..=>3
 | .bag ..=>1
structure OwnAt (E:Env) (m0:List (Nat×MO)) (w:World):Prop where
 mem:∀ n o,(n,o)∈m0→MRel E w n o
 inj:∀ n n' b,E.holds n b→E.holds n' b→n=n'
 place:∀ n b,E.holds n b→E.K b=none∧b<w.heap.size
 cel:∀ n b,E.cel n=some b→∃ o,(n,o)∈m0∧o.boxy=true
 rw:∀ n x,E.rw n=some x→∃ o,(n,o)∈m0∧o.rowy=true
 mp:∀ n b,E.mp n=some b→∃ kagg agg ents,(n,.omap kagg agg ents)∈m0
def Env.upd(E:Env)(K':Know)(rw':Nat→Option (Value×Nat)):Env:={ K:=K',cel:=E.cel,rw:=rw',mp:=E.mp,c:=E.c }
structure OwnOut (hid:List Nat) (E:Env) (m1:List (Nat×MO)) (w:World) (K':Know) (rw':Nat→Option (Value×Nat)) (w':World):Prop where
 le:E.K.le K'
 nk:∀ b,b<w.heap.size→E.K b=none→K' b=none
 know:Knows K' w'
 same:∀ n,hasN hid n=false→rw' n=E.rw n
 mem:∀ n o,(n,o)∈m1→MRel (E.upd K' rw') w' n o
 inj:∀ n n' b,(E.upd K' rw').holds n b→(E.upd K' rw').holds n' b→n=n'
 place:∀ n b,(E.upd K' rw').holds n b→K' b=none∧b<w'.heap.size∧(w.heap.size≤b∨∃ n',E.holds n' b)
 os:w'.os=w.os
 tape:w'.tape=w.tape
 output:w'.output=w.output
 size:w.heap.size≤w'.heap.size
 old:∀ b,b<w.heap.size→(∀ n,¬ E.holds n b)→w'.heap[b]?=w.heap[b]?
def FOwn(P:Program)(f:FuncId)(hid:List Nat)(args:List CV)(m0:List (Nat×MO))(r:SB)(m1:List (Nat×MO)):Prop:=
 (∃ fn,P.funcs[f]?=some fn∧fn.body.isSome=true∧(fn.name== "runtime.NumGoroutine")=false) ∧
 ∀ (E:Env) (w:World) (vs:Array Value),Laid P E.K→Knows E.K w→OwnAt E m0 w→vs.size=args.length→(∀ j,j<args.length→RelCV E (args.getD j (.c .junk)) (vs.getD j undef)) →
  Calls P f vs w fun e w'=>∃ K' rw' v,e=.returned v∧OwnOut hid E m1 w K' rw' w'∧RelSB (E.upd K' rw') r v
def Env.via(E:Env)(σ:Nat→Nat)(ns:List Nat):Env:=
 {K:=E.K,cel:=fun n=>if hasN ns n then E.cel (σ n) else none,rw:=fun n=>if hasN ns n then E.rw (σ n) else none,mp:=fun n=>if hasN ns n then E.mp (σ n) else none,c:=E.c }
theorem holds_via{σ:Nat→Nat}{ns:List Nat}{n b:Nat}:(E.via σ ns).holds n b↔hasN ns n=true∧E.holds (σ n) b:=by
 unfold Env.holds Env.via
 by_cases h:hasN ns n=true<;>simp [h]
def Env.after(E:Env)(σ:Nat→Nat)(hid:List Nat)(K':Know)(rw':Nat→Option (Value×Nat)):Env:=
 {K:=K',cel:=E.cel,rw:=fun k=>match hid.find? (fun n=>Nat.beq (σ n) k) with
   | some n=>rw' n
   | none=>E.rw k,mp:=E.mp,c:=E.c }
def InjOn(σ:Nat→Nat)(ns:List Nat):Prop:=∀ a b,a∈ns→b∈ns→σ a=σ b→a=b
theorem after_rw_hid{σ:Nat→Nat}{ns hid:List Nat}{K':Know}{rw':Nat→Option (Value×Nat)}(hi:InjOn σ ns)(hsub:∀ n,n∈hid→n∈ns){n:Nat}(hn:n∈hid):(E.after σ hid K' rw').rw (σ n)=rw' n:=by
 simp only [Env.after]
 cases hf:hid.find? (fun m=>Nat.beq (σ m) (σ n)) with
 | none =>
  have:=List.find?_eq_none.1 hf n hn
  exact absurd (Nat.beq_refl (σ n)) this
 | some m =>
  have h1:=List.mem_of_find?_eq_some hf
  have h2:σ m=σ n:=Nat.eq_of_beq_eq_true (List.find?_some (p:=fun m=>Nat.beq (σ m) (σ n)) hf)
  rw [hi m n (hsub m h1) (hsub n hn) h2]
theorem after_rw_not{σ:Nat→Nat}{hid:List Nat}{K':Know}{rw':Nat→Option (Value×Nat)}{k:Nat}(hk:∀ n,n∈hid→σ n≠k):(E.after σ hid K' rw').rw k=E.rw k:=by
 simp only [Env.after]
 cases hf:hid.find? (fun m=>Nat.beq (σ m) k) with
 | none=>rfl
 | some m =>
  have h1:=List.mem_of_find?_eq_some hf
  have h2:σ m=k:=Nat.eq_of_beq_eq_true (List.find?_some (p:=fun m=>Nat.beq (σ m) k) hf)
  exact absurd h2 (hk m h1)
theorem via_relP{σ:Nat→Nat}{ns:List Nat}{n off:Nat}{u:Value}(hn:hasN ns n=true)(h:RelP E (σ n) off u):RelP (E.via σ ns) n off u:=by
 obtain ⟨b,hb,hu⟩:=h
 exact ⟨b,by simp only [Env.via,hn,if_true];exact hb,hu⟩
theorem via_rel{σ:Nat→Nat}{ns:List Nat}{c:C}{u:Value}(hc:c.inN ns=true)(h:Rel E (c.ren σ) u):Rel (E.via σ ns) c u:=by
 cases c with
 | ptr n off=>exact via_relP hc h
 | row r n =>
  obtain ⟨hd,len,h1,h2⟩:=h
  exact ⟨hd,len,by simp only [Env.via,show hasN ns r=true from hc,if_true];exact h1,h2⟩
 | rel r n sz i off =>
  obtain ⟨hd,len,h1,h2⟩:=h
  exact ⟨hd,len,by simp only [Env.via,show hasN ns r=true from hc,if_true];exact h1,h2⟩
 | oclo bd fn caps =>
  obtain ⟨vs,hu,hs,hp⟩:=h
  refine ⟨vs,hu,by simpa using hs,fun j hj=>?_⟩
  have h1:=hp j (by simpa using hj)
  have h2:(caps.map fun p=>(σ p.1,p.2)).getD j (0,0)=(σ (caps.getD j (0,0)).1,(caps.getD j (0,0)).2):=by simp [gE,hj]
  rw [h2] at h1
  refine via_relP ?_ h1
  have:=(List.all_eq_true.1 hc) (caps.getD j (0,0)) (by simp [gE,hj])
  exact this
 | omap r =>
  obtain ⟨b,h1,h2⟩:=h
  exact ⟨b,by simp only [Env.via,show hasN ns r=true from hc,if_true];exact h1,h2⟩
 | yld n=>cases hc
 | _=>exact h
theorem via_relL{σ:Nat→Nat}{ns:List Nat}{cs:List C}{arr:Array Value}(hc:cs.all (C.inN ns)=true)(h:RelL E (cs.map (C.ren σ)) arr):RelL (E.via σ ns) cs arr:=by
 refine ⟨by simpa using h.1,fun j hj=>?_⟩
 have:=h.2 j (by simpa using hj)
 have e:(cs.map (C.ren σ)).getD j .junk=(cs.getD j .junk).ren σ:=by simp [gE,hj]
 rw [e] at this
 exact ⟨via_rel ((List.all_eq_true.1 hc) _ (by simp [gE,hj])) this.1,this.2⟩
theorem via_relCV{σ:Nat→Nat}{ns:List Nat}{x:CV}{u:Value}(hc:x.inN ns=true)(h:RelCV E (x.ren σ) u):RelCV (E.via σ ns) x u:=by
 cases x with
 | c x=>exact ⟨via_rel hc h.1,h.2⟩
 | agg cs=>exact h
 | pagg cs=>obtain ⟨arr,hu,hl⟩:=h;exact ⟨arr,hu,via_relL hc hl⟩
theorem via_mrel{σ:Nat→Nat}{ns:List Nat}{n:Nat}{o:MO}(hn:hasN ns n=true)(ho:o.inN ns=true)(h:MRel E w (σ n) (o.ren σ)):MRel (E.via σ ns) w n o:=by
 cases o with
 | cells cs=>obtain ⟨b,arr,T,h1,h2,h3⟩:=h;exact ⟨b,arr,T,by simp only [Env.via,hn,if_true];exact h1,h2,h3⟩
 | pcells cs=>obtain ⟨b,arr,T,h1,h2,h3⟩:=h;exact ⟨b,arr,T,by simp only [Env.via,hn,if_true];exact h1,h2,via_relL ho h3⟩
 | tcells T cs=>obtain ⟨b,arr,h1,h2,h0,h3⟩:=h;exact ⟨b,arr,by simp only [Env.via,hn,if_true];exact h1,h2,h0,via_relL ho h3⟩
 | row e sz css=>obtain ⟨h1,h2,hd,xs,h3,h4⟩:=h;exact ⟨h1,h2,hd,xs,by simp only [Env.via,hn,if_true];exact h3,h4⟩
 | omap kagg agg ents=>obtain ⟨b,es,h1,h2⟩:=h;exact ⟨b,es,by simp only [Env.via,hn,if_true];exact h1,h2⟩
 | gone=>obtain ⟨hd,len,h1,h2⟩:=h;exact ⟨hd,len,by simp only [Env.via,hn,if_true];exact h1,h2⟩
 | cnt i xs k=>cases ho
 | bag e sz css=>obtain ⟨css',hp,h1,h2,hd,xs,h3,h4⟩:=h;exact ⟨css',hp,h1,h2,hd,xs,by simp only [Env.via,hn,if_true];exact h3,h4⟩
section
variable {σ:Nat→Nat} {ns hid:List Nat} {K':Know} {rw':Nat→Option (Value×Nat)}
structure Views (E:Env) (σ:Nat→Nat) (ns hid:List Nat) (rw':Nat→Option (Value×Nat)):Prop where
 inj:InjOn σ ns
 sub:∀ n,n∈hid→n∈ns
 same:∀ n,hasN hid n=false→rw' n=(E.via σ ns).rw n
theorem Views.rw(h:Views E σ ns hid rw'){n:Nat}(hn:n∈ns):(E.after σ hid K' rw').rw (σ n)=rw' n:=by
 by_cases hh:n∈hid
 ·exact after_rw_hid h.inj h.sub hh
 ·have h1:hasN hid n=false:=by
   cases hx:hasN hid n with
   | false=>rfl
   | true=>exact absurd (hasN_iff.1 hx) hh
  rw [h.same n h1,after_rw_not fun m hm e=>hh (by rw [← h.inj m n (h.sub m hm) hn e];exact hm)]
  simp only [Env.via,hasN_iff.2 hn,if_true]
theorem Views.holds(h:Views E σ ns hid rw'){n b:Nat}(hn:n∈ns):(E.after σ hid K' rw').holds (σ n) b↔((E.via σ ns).upd K' rw').holds n b:=by
 unfold Env.holds
 rw [h.rw (K':=K') hn]
 simp only [Env.after,Env.upd,Env.via,hasN_iff.2 hn,if_true]
theorem Views.holds_not(h:Views E σ ns hid rw'){k b:Nat}(hk:∀ n,n∈ns→σ n≠k):(E.after σ hid K' rw').holds k b↔E.holds k b:=by
 unfold Env.holds
 rw [after_rw_not fun n hn=>hk n (h.sub n hn)]
 simp only [Env.after]
theorem back_relP{n off:Nat}{u:Value}(hn:hasN ns n=true)(h:RelP ((E.via σ ns).upd K' rw') n off u):RelP (E.after σ hid K' rw') (σ n) off u:=by
 obtain ⟨b,hb,hu⟩:=h
 simp only [Env.upd,Env.via,hn,if_true] at hb
 exact ⟨b,hb,hu⟩
theorem back_rel(hv:Views E σ ns hid rw'){c:C}{u:Value}(hc:c.inN ns=true)(h:Rel ((E.via σ ns).upd K' rw') c u):Rel (E.after σ hid K' rw') (c.ren σ) u:=by
 cases c with
 | ptr n off=>exact back_relP hc h
 | row r n =>
  obtain ⟨hd,len,h1,h2⟩:=h
  exact ⟨hd,len,by rw [hv.rw (hasN_iff.1 hc)];exact h1,h2⟩
 | rel r n sz i off =>
  obtain ⟨hd,len,h1,h2⟩:=h
  exact ⟨hd,len,by rw [hv.rw (hasN_iff.1 hc)];exact h1,h2⟩
 | oclo bd fn caps =>
  obtain ⟨vs,hu,hs,hp⟩:=h
  refine ⟨vs,hu,by simpa using hs,fun j hj=>?_⟩
  have hj':j<caps.length:=by simpa using hj
  have h2:(caps.map fun p=>(σ p.1,p.2)).getD j (0,0)=(σ (caps.getD j (0,0)).1,(caps.getD j (0,0)).2):=by simp [gE,hj']
  rw [h2]
  refine back_relP ?_ (hp j hj')
  exact (List.all_eq_true.1 hc) (caps.getD j (0,0)) (by simp [gE,hj'])
 | omap r =>
  obtain ⟨b,h1,h2⟩:=h
  simp only [Env.upd,Env.via,show hasN ns r=true from hc,if_true] at h1
  exact ⟨b,h1,h2⟩
 | yld n=>cases hc
 | _=>exact h
theorem back_relCV(hv:Views E σ ns hid rw'){x:CV}{u:Value}(hc:x.inN ns=true)(h:RelCV ((E.via σ ns).upd K' rw') x u):RelCV (E.after σ hid K' rw') (x.ren σ) u:=by
 cases x with
 | c x=>exact ⟨back_rel hv hc h.1,h.2⟩
 | agg cs=>exact h
 | pagg cs =>
  obtain ⟨arr,hu,h1,h2⟩:=h
  refine ⟨arr,hu,by simpa using h1,fun j hj=>?_⟩
  have hj':j<cs.length:=by simpa using hj
  have e:(cs.map (C.ren σ)).getD j .junk=(cs.getD j .junk).ren σ:=by simp [gE,hj']
  rw [e]
  exact ⟨back_rel hv ((List.all_eq_true.1 hc) _ (by simp [gE,hj'])) (h2 j hj').1,(h2 j hj').2⟩
theorem back_relSB(hv:Views E σ ns hid rw'){x:SB}{u:Value}(hc:x.inN ns=true)(h:RelSB ((E.via σ ns).upd K' rw') x u):RelSB (E.after σ hid K' rw') (x.ren σ) u:=by
 cases x with
 | v x=>exact back_relCV hv hc h
 | tup xs =>
  obtain ⟨vs,hu,h1,h2⟩:=h
  refine ⟨vs,hu,by simpa using h1,fun j hj=>?_⟩
  have hj':j<xs.length:=by simpa using hj
  have e:(xs.map (CV.ren σ)).getD j (.c .junk)=(xs.getD j (.c .junk)).ren σ:=by simp [gE,hj']
  rw [e]
  exact back_relCV hv ((List.all_eq_true.1 hc) _ (by simp [gE,hj'])) (h2 j hj')
theorem back_mrel(hv:Views E σ ns hid rw'){w':World}{n:Nat}{o:MO}(hn:hasN ns n=true)(ho:o.inN ns=true)(h:MRel ((E.via σ ns).upd K' rw') w' n o):MRel (E.after σ hid K' rw') w' (σ n) (o.ren σ):=by
 cases o with
 | cells cs =>
  obtain ⟨b,arr,T,h1,h2,h3⟩:=h
  simp only [Env.upd,Env.via,hn,if_true] at h1
  exact ⟨b,arr,T,h1,h2,h3⟩
 | pcells cs =>
  obtain ⟨b,arr,T,h1,h2,h3⟩:=h
  simp only [Env.upd,Env.via,hn,if_true] at h1
  refine ⟨b,arr,T,h1,h2,by simpa using h3.1,fun j hj=>?_⟩
  have hj':j<cs.length:=by simpa using hj
  have e:(cs.map (C.ren σ)).getD j .junk=(cs.getD j .junk).ren σ:=by simp [gE,hj']
  rw [e]
  have:=h3.2 j hj'
  exact ⟨back_rel hv ((List.all_eq_true.1 ho) _ (by simp [gE,hj'])) this.1,this.2⟩
 | tcells T cs =>
  obtain ⟨b,arr,h1,h2,h0,h3⟩:=h
  simp only [Env.upd,Env.via,hn,if_true] at h1
  refine ⟨b,arr,h1,h2,h0,by simpa using h3.1,fun j hj=>?_⟩
  have hj':j<cs.length:=by simpa using hj
  have e:(cs.map (C.ren σ)).getD j .junk=(cs.getD j .junk).ren σ:=by simp [gE,hj']
  rw [e]
  have:=h3.2 j hj'
  exact ⟨back_rel hv ((List.all_eq_true.1 ho) _ (by simp [gE,hj'])) this.1,this.2⟩
 | row e sz css=>obtain ⟨h1,h2,hd,xs,h3,h4⟩:=h;exact ⟨h1,h2,hd,xs,by rw [hv.rw (hasN_iff.1 hn)];exact h3,h4⟩
 | omap kagg agg ents =>
  obtain ⟨b,es,h1,h2⟩:=h
  simp only [Env.upd,Env.via,hn,if_true] at h1
  exact ⟨b,es,h1,h2⟩
 | gone=>obtain ⟨hd,len,h1,h2⟩:=h;exact ⟨hd,len,by rw [hv.rw (hasN_iff.1 hn)];exact h1,h2⟩
 | cnt i xs k=>cases ho
 | bag e sz css=>obtain ⟨css',hp,h1,h2,hd,xs,h3,h4⟩:=h;exact ⟨css',hp,h1,h2,hd,xs,by rw [hv.rw (hasN_iff.1 hn)];exact h3,h4⟩
end
def freeC(hs:List Nat):C→Bool
 | .row r _=>!hasN hs r
 | .rel r _ _ _ _=>!hasN hs r
 | _=>true
def freeCV(hs:List Nat):CV→Bool
 | .c x=>freeC hs x
 | .agg _=>true
 | .pagg cs=>cs.all (freeC hs)
def freeSB(hs:List Nat):SB→Bool
 | .v x=>freeCV hs x
 | .tup xs=>xs.all (freeCV hs)
def freeSV(hs:List Nat):SV→Bool
 | .junk=>true
 | .b x=>freeSB hs x
 | .may _ x=>freeSB hs x
 | .pin _ x=>freeSB hs x
def freeMO(hs:List Nat):MO→Bool
 | .pcells cs=>cs.all (freeC hs)
 | .tcells _ cs=>cs.all (freeC hs)
 | _=>true
def freeM(hs own:List Nat):List (Option MO)→Nat→Bool
 | [],_=>true
 | x :: r,k=>(match x with | some o=>hasN own k||(!hasN hs k&&freeMO hs o) | none=>true)&&freeM hs own r (k+1)
theorem freeM_get{hs own:List Nat}:∀ {l:List (Option MO)} {i k:Nat} {o:MO},freeM hs own l i=true→l[k]?=some (some o)→hasN own (i+k)=true∨(hasN hs (i+k)=false∧freeMO hs o=true):=by
 intro l
 induction l with
 | nil=>intro i k o _ h;simp at h
 | cons x l ih =>
  intro i k o h hk
  simp only [freeM,Bool.and_eq_true] at h
  cases k with
  | zero =>
   simp at hk
   subst hk
   have h1:=h.1
   simp only [Bool.or_eq_true,Bool.and_eq_true,Bool.not_eq_true'] at h1
   exact h1
  | succ k =>
   have:=ih h.2 (by simpa using hk)
   rwa [show i+1+k=i+(k+1) by omega] at this
section
variable {σ:Nat→Nat} {hid:List Nat} {K':Know} {rw':Nat→Option (Value×Nat)}
theorem not_hid{k:Nat}(h:hasN (hid.map σ) k=false):∀ n,n∈hid→σ n≠k:=fun n hn e=>by
 have:k∈hid.map σ:=by rw [← e];exact List.mem_map_of_mem hn
 rw [hasN_iff.2 this] at h;cases h
theorem free_rel(hle:E.K.le K'){c:C}{u:Value}(hc:freeC (hid.map σ) c=true)(h:Rel E c u):Rel (E.after σ hid K' rw') c u:=by
 cases c with
 | ptr n off=>exact h
 | row r n =>
  obtain ⟨hd,len,h1,h2⟩:=h
  exact ⟨hd,len,by rw [after_rw_not (not_hid (by simpa [freeC] using hc))];exact h1,h2⟩
 | rel r n sz i off =>
  obtain ⟨hd,len,h1,h2⟩:=h
  exact ⟨hd,len,by rw [after_rw_not (not_hid (by simpa [freeC] using hc))];exact h1,h2⟩
 | oclo bd fn caps=>exact h
 | omap r=>exact h
 | yld n=>exact h
 | _=>exact RelK.mono hle h
theorem free_relL(hle:E.K.le K'){cs:List C}{arr:Array Value}(hc:cs.all (freeC (hid.map σ))=true)(h:RelL E cs arr):RelL (E.after σ hid K' rw') cs arr:=
 ⟨h.1,fun j hj=>⟨free_rel hle ((List.all_eq_true.1 hc) _ (by simp [gE,hj])) (h.2 j hj).1,(h.2 j hj).2⟩⟩
theorem free_relCV(hle:E.K.le K'){x:CV}{u:Value}(hc:freeCV (hid.map σ) x=true)(h:RelCV E x u):RelCV (E.after σ hid K' rw') x u:=by
 cases x with
 | c x=>exact ⟨free_rel hle hc h.1,h.2⟩
 | agg cs=>obtain ⟨arr,hu,hl⟩:=h;exact ⟨arr,hu,hl.mono hle⟩
 | pagg cs=>obtain ⟨arr,hu,hl⟩:=h;exact ⟨arr,hu,free_relL hle hc hl⟩
theorem free_relSB(hle:E.K.le K'){x:SB}{u:Value}(hc:freeSB (hid.map σ) x=true)(h:RelSB E x u):RelSB (E.after σ hid K' rw') x u:=by
 cases x with
 | v x=>exact free_relCV hle hc h
 | tup xs =>
  obtain ⟨vs,hu,hs,hl⟩:=h
  exact ⟨vs,hu,hs,fun j hj=>free_relCV hle ((List.all_eq_true.1 hc) _ (by simp [gE,hj])) (hl j hj)⟩
theorem free_relSV(hle:E.K.le K'){g:List (Option Bool)}{x:SV}{u:Value}(hc:freeSV (hid.map σ) x=true)(h:RelSV E g x u):RelSV (E.after σ hid K' rw') g x u:=by
 cases x with
 | junk=>trivial
 | b y=>exact free_relSB hle hc h
 | may p y=>exact ⟨fun hp=>free_relSB hle hc (h.1 hp),h.2⟩
 | pin k y=>exact ⟨free_relSB hle hc h.1,h.2⟩
theorem free_mrel(hle:E.K.le K'){k:Nat}{o:MO}(hk:hasN (hid.map σ) k=false)(ho:freeMO (hid.map σ) o=true)(h:MRel E w k o):MRel (E.after σ hid K' rw') w k o:=by
 cases o with
 | cells cs=>obtain ⟨b,arr,T,h1,h2,h3⟩:=h;exact ⟨b,arr,T,h1,h2,h3.mono hle⟩
 | pcells cs=>obtain ⟨b,arr,T,h1,h2,h3⟩:=h;exact ⟨b,arr,T,h1,h2,free_relL hle ho h3⟩
 | tcells T cs=>obtain ⟨b,arr,h1,h2,h0,h3⟩:=h;exact ⟨b,arr,h1,h2,h0,free_relL hle ho h3⟩
 | row e sz css=>obtain ⟨h1,h2,hd,xs,h3,h4,h5⟩:=h;exact ⟨h1,h2,hd,xs,by rw [after_rw_not (not_hid hk)];exact h3,h4,h5.mono hle⟩
 | omap kagg agg ents=>obtain ⟨b,es,h1,h2,h3⟩:=h;exact ⟨b,es,h1,h2,h3.mono hle⟩
 | gone=>obtain ⟨hd,len,h1,h2⟩:=h;exact ⟨hd,len,by rw [after_rw_not (not_hid hk)];exact h1,h2⟩
 | cnt i xs k=>exact h
 | bag e sz css=>obtain ⟨css',hp,h1,h2,hd,xs,h3,h4,h5⟩:=h;exact ⟨css',hp,h1,h2,hd,xs,by rw [after_rw_not (not_hid hk)];exact h3,h4,h5.mono hle⟩
end
def putL(σ:Nat→Nat):List (Option MO)→List (Nat×MO)→List (Option MO)
 | m,[]=>m
 | m,(n,o) :: r=>putL σ (m.set (σ n) (some (o.ren σ))) r
theorem putL_other{σ:Nat→Nat}:∀ {l:List (Nat×MO)} {m:List (Option MO)} {k:Nat},(∀ n,n∈l.map (·.1)→σ n≠k)→(putL σ m l)[k]?=m[k]?:=by
 intro l
 induction l with
 | nil=>intro m k _;rfl
 | cons x l ih =>
  intro m k h
  obtain ⟨n,o⟩:=x
  simp only [putL]
  rw [ih fun n' hn'=>h n' (by simp [hn'])]
  rw [List.getElem?_set_ne (h n (by simp))]
theorem putL_at{σ:Nat→Nat}:∀ {l:List (Nat×MO)} {m:List (Option MO)} {n:Nat} {o:MO},(l.map (·.1)).Nodup→InjOn σ (l.map (·.1))→(n,o)∈l→σ n<m.length→(putL σ m l)[σ n]?=some (some (o.ren σ)):=by
 intro l
 induction l with
 | nil=>intro m n o _ _ h;cases h
 | cons x l ih =>
  intro m n o hnd hi h hlt
  obtain ⟨n1,o1⟩:=x
  simp only [List.map_cons,List.nodup_cons] at hnd
  simp only [putL]
  rcases List.mem_cons.1 h with h | h
  ·cases h
   rw [putL_other fun n' hn' e=>?_]
   ·simp [hlt]
   ·have:=hi n' n (by simp [hn']) (by simp) e
    exact hnd.1 (by rw [← this];exact hn')
  ·exact ih hnd.2 (fun a b ha hb=>hi a b (by simp [ha]) (by simp [hb])) h (by simpa using hlt)
def dupFree:List Nat→Bool
 | []=>true
 | n :: r=>!hasN r n&&dupFree r
theorem dupFree_nodup:∀ {l:List Nat},dupFree l=true→l.Nodup:=by
 intro l
 induction l with
 | nil=>intro _;exact List.nodup_nil
 | cons n l ih =>
  intro h
  simp only [dupFree,Bool.and_eq_true,Bool.not_eq_true'] at h
  refine List.nodup_cons.2 ⟨fun hm=>?_,ih h.2⟩
  rw [hasN_iff.2 hm] at h
  cases h.1
theorem injOn_of{σ:Nat→Nat}:∀ {l:List Nat},(l.map σ).Nodup→InjOn σ l:=by
 intro l
 induction l with
 | nil=>intro _ a b ha;cases ha
 | cons x l ih =>
  intro h a b ha hb e
  simp only [List.map_cons,List.nodup_cons] at h
  rcases List.mem_cons.1 ha with ha1 | ha1
  ·rcases List.mem_cons.1 hb with hb1 | hb1
   ·rw [ha1,hb1]
   ·exact absurd (by rw [← ha1,e];exact List.mem_map_of_mem hb1) h.1
  ·rcases List.mem_cons.1 hb with hb1 | hb1
   ·exact absurd (by rw [← hb1,← e];exact List.mem_map_of_mem ha1) h.1
   ·exact ih h.2 a b ha1 hb1 e
def kindsEq:List (Nat×MO)→List (Nat×MO)→Bool
 | [],[]=>true
 | (n,o) :: r,(n',o') :: r'=>Nat.beq n n'&&Nat.beq o.kind o'.kind&&kindsEq r r'
 | _,_=>false
theorem kindsEq_names:∀ {l l':List (Nat×MO)},kindsEq l l'=true→l'.map (·.1)=l.map (·.1):=by
 intro l
 induction l with
 | nil=>intro l' h;cases l' with
  | nil=>rfl
  | cons=>cases h
 | cons x l ih=>intro l' h;cases l' with
  | nil=>cases h
  | cons y l' =>
   obtain ⟨n,o⟩:=x
   obtain ⟨n',o'⟩:=y
   simp only [kindsEq,Bool.and_eq_true] at h
   simp [ih h.2,Nat.eq_of_beq_eq_true h.1.1]
theorem kindsEq_get:∀ {l l':List (Nat×MO)} {n:Nat} {o o':MO},kindsEq l l'=true→(l.map (·.1)).Nodup→(n,o)∈l→(n,o')∈l'→o.kind=o'.kind:=by
 intro l
 induction l with
 | nil=>intro l' n o o' _ _ h;cases h
 | cons x l ih=>intro l' n o o' h hnd h1 h2;cases l' with
  | nil=>cases h2
  | cons y l' =>
   obtain ⟨n1,o1⟩:=x
   obtain ⟨n2,o2⟩:=y
   simp only [kindsEq,Bool.and_eq_true] at h
   simp only [List.map_cons,List.nodup_cons] at hnd
   have hnames:=kindsEq_names h.2
   rcases List.mem_cons.1 h1 with h1 | h1
   ·cases h1
    rcases List.mem_cons.1 h2 with h2 | h2
    ·cases h2;exact Nat.eq_of_beq_eq_true h.1.2
    ·exact absurd (by rw [← hnames];exact List.mem_map_of_mem (f:=(·.1)) h2) hnd.1
   ·rcases List.mem_cons.1 h2 with h2 | h2
    ·cases h2
     have:n=n1:=(Nat.eq_of_beq_eq_true h.1.1).symm
     exact absurd (by rw [← this];exact List.mem_map_of_mem (f:=(·.1)) h1) hnd.1
    ·exact ih h.2 hnd.2 h1 h2
theorem kind_ren(σ:Nat→Nat)(o:MO):(o.ren σ).kind=o.kind:=by cases o<;>rfl
structure OwnOk (hid:List Nat) (m0 m1:List (Nat×MO)) (σ:Nat→Nat) (m:List (Option MO)):Prop where
 kinds:kindsEq m0 m1=true
 dup:dupFree ((m0.map (·.1)).map σ)=true
 sub:hid.all (hasN (m0.map (·.1)))=true
 in0:m0.all (fun x=>x.2.inN (m0.map (·.1)))=true
 in1:m1.all (fun x=>x.2.inN (m0.map (·.1)))=true
 hrow:m1.all (fun x=>!hasN hid x.1||Nat.beq x.2.kind 1)=true
 free:freeM (hid.map σ) ((m0.map (·.1)).map σ) m 0=true
theorem kind_box{o:MO}(h:o.kind=0):o.boxy=true:=by cases o<;>simp [MO.kind,MO.boxy] at h ⊢
theorem boxy_kind{o:MO}(h:o.boxy=true):o.kind=0:=by cases o<;>simp [MO.kind,MO.boxy] at h ⊢
theorem kind_row{o:MO}(h:o.kind=1):o.rowy=true:=by cases o<;>simp [MO.kind,MO.rowy] at h ⊢
theorem rowy_kind{o:MO}(h:o.rowy=true):o.kind=1:=by cases o<;>simp [MO.kind,MO.rowy] at h ⊢
theorem kind_map{o:MO}(h:o.kind=2):∃ kagg agg ents,o=.omap kagg agg ents:=by
 cases o<;>simp [MO.kind] at h
 exact ⟨_,_,_,rfl⟩
theorem Core.ownAt{hid:List Nat}{m0 m1:List (Nat×MO)}{σ:Nat→Nat}{m:List (Option MO)}(hc:Core B E m w)(hok:OwnOk hid m0 m1 σ m)(hm:∀ n o,(n,o)∈m0→m[σ n]?=some (some (o.ren σ))):
  OwnAt (E.via σ (m0.map (·.1))) m0 w:=by
 have hinj:InjOn σ (m0.map (·.1)):=injOn_of (dupFree_nodup hok.dup)
 have hin:∀ n o,(n,o)∈m0→hasN (m0.map (·.1)) n=true:=fun n o h=>hasN_iff.2 (List.mem_map_of_mem (f:=(·.1)) h)
 have hget:∀ n,hasN (m0.map (·.1)) n=true→∃ o,(n,o)∈m0:=fun n h=>by
  obtain ⟨⟨n',o⟩,h1,h2⟩:=List.mem_map.1 (hasN_iff.1 h)
  exact ⟨o,by simp only at h2;rw [← h2];exact h1⟩
 refine ⟨fun n o h=>?_,fun n n' b h h'=>?_,fun n b h=>?_,fun n b h=>?_,fun n x h=>?_,fun n b h=>?_⟩
 ·exact via_mrel (hin n o h) ((List.all_eq_true.1 hok.in0) _ h) (hc.mem _ _ (hm n o h))
 ·obtain ⟨h1,h2⟩:=holds_via.1 h
  obtain ⟨h3,h4⟩:=holds_via.1 h'
  exact hinj n n' (hasN_iff.1 h1) (hasN_iff.1 h3) (hc.inj _ _ b h2 h4)
 ·obtain ⟨h1,h2⟩:=holds_via.1 h
  exact ⟨hc.apart _ b h2,hc.lt _ b h2⟩
 ·simp only [Env.via] at h
  split at h
  case isFalse=>cases h
  rename_i hn
  obtain ⟨o,ho⟩:=hget n hn
  obtain ⟨o1,h1,h1'⟩:=hc.cel _ _ h
  have h2:=hm n o ho
  rw [h1] at h2
  cases h2
  exact ⟨o,ho,kind_box (by rw [← kind_ren σ];exact boxy_kind h1')⟩
 ·simp only [Env.via] at h
  split at h
  case isFalse=>cases h
  rename_i hn
  obtain ⟨o,ho⟩:=hget n hn
  obtain ⟨o',h1,h1'⟩:=hc.rw _ _ h
  have h2:=hm n o ho
  rw [h1] at h2
  cases h2
  exact ⟨o,ho,kind_row (by rw [← kind_ren σ];exact rowy_kind h1')⟩
 ·simp only [Env.via] at h
  split at h
  case isFalse=>cases h
  rename_i hn
  obtain ⟨o,ho⟩:=hget n hn
  obtain ⟨kagg,agg,ents,h1⟩:=hc.mp _ _ h
  have h2:=hm n o ho
  rw [h1] at h2
  have hk:o.kind=2:=by
   rw [← kind_ren σ]
   have h3:=Option.some.inj (Option.some.inj h2)
   rw [← h3];rfl
  obtain ⟨kagg',agg',ents',rfl⟩:=kind_map hk
  exact ⟨kagg',agg',ents',ho⟩
theorem Core.owned{hid:List Nat}{m0 m1:List (Nat×MO)}{σ:Nat→Nat}{m:List (Option MO)}{K':Know}{rw':Nat→Option (Value×Nat)}{w':World}(hc:Core B E m w)(hok:OwnOk hid m0 m1 σ m) 
  (hm:∀ n o,(n,o)∈m0→m[σ n]?=some (some (o.ren σ))) (ho:OwnOut hid (E.via σ (m0.map (·.1))) m1 w K' rw' w'):Core B (E.after σ hid K' rw') (putL σ m m1) w':=by
 have hnd:=dupFree_nodup hok.dup
 have hinj:InjOn σ (m0.map (·.1)):=injOn_of hnd
 have hnames:=kindsEq_names hok.kinds
 have hnd0:(m0.map (·.1)).Nodup:=by
  have:∀ {l:List Nat},(l.map σ).Nodup→l.Nodup:=fun {l} h=>by
   induction l with
   | nil=>exact List.nodup_nil
   | cons x l ih =>
    simp only [List.map_cons,List.nodup_cons] at h
    exact List.nodup_cons.2 ⟨fun hm=>h.1 (List.mem_map_of_mem hm),ih h.2⟩
  exact this hnd
 have hsub:∀ n,n∈hid→n∈m0.map (·.1):=fun n hn=>hasN_iff.1 ((List.all_eq_true.1 hok.sub) n hn)
 have hv:Views E σ (m0.map (·.1)) hid rw':=⟨hinj,hsub,ho.same⟩
 have hget:∀ n,n∈m0.map (·.1)→∃ o o',(n,o)∈m0∧(n,o')∈m1∧o.kind=o'.kind:=fun n h=>by
  obtain ⟨⟨n1,o⟩,h1,h2⟩:=List.mem_map.1 h
  simp only at h2
  subst h2
  have h3:n1∈m1.map (·.1):=by rw [hnames];exact h
  obtain ⟨⟨n2,o'⟩,h4,h5⟩:=List.mem_map.1 h3
  simp only at h5
  subst h5
  exact ⟨o,o',h1,h4,kindsEq_get hok.kinds hnd0 h1 h4⟩
 have hlt:∀ n o,(n,o)∈m0→σ n<m.length:=fun n o h=>(List.getElem?_eq_some_iff.1 (hm n o h)).1
 have hat:∀ n o',(n,o')∈m1→(putL σ m m1)[σ n]?=some (some (o'.ren σ)):=fun n o' h=>by
  have hn:n∈m0.map (·.1):=by rw [← hnames];exact List.mem_map_of_mem (f:=(·.1)) h
  obtain ⟨o,_,h1,_⟩:=hget n hn
  exact putL_at (by rw [hnames];exact hnd0) (by rw [hnames];exact hinj) h (hlt n o h1)
 have hnot:∀ k,(∀ n,n∈m0.map (·.1)→σ n≠k)→(putL σ m m1)[k]?=m[k]?:=fun k h=>putL_other (by rw [hnames];exact h)
 have outside:∀ k b,E.holds k b→(∀ n,n∈m0.map (·.1)→σ n≠k)→∀ n,¬ (E.via σ (m0.map (·.1))).holds n b:=fun k b h hk n hn=>by
  obtain ⟨h1,h2⟩:=holds_via.1 hn
  exact hk n (hasN_iff.1 h1) (hc.inj _ _ b h2 h)
 have part:∀ k,(∃ n,n∈m0.map (·.1)∧σ n=k)∨∀ n,n∈m0.map (·.1)→σ n≠k:=fun k=>by
  by_cases h:∃ n,n∈m0.map (·.1)∧σ n=k
  ·exact .inl h
  ·exact .inr fun n hn e=>h ⟨n,hn,e⟩
 exact
 {know:=ho.know
  laid:=hc.laid.mono ho.le
  base:=Know.le_trans hc.base ho.le
  nk:=fun b h1 h2=>ho.nk b (Nat.lt_of_lt_of_le h1 hc.size) (hc.nk b h1 h2)
  mem:=fun k o hk=>by
   rcases part k with ⟨n,hn,rfl⟩ | hk'
   ·obtain ⟨_,o',_,h2,_⟩:=hget n hn
    rw [hat n o' h2] at hk
    cases hk
    exact back_mrel hv (hasN_iff.2 hn) ((List.all_eq_true.1 hok.in1) _ h2) (ho.mem n o' h2)
   ·rw [hnot k hk'] at hk
    have hf:=freeM_get hok.free hk
    rw [Nat.zero_add] at hf
    have hown:hasN ((m0.map (·.1)).map σ) k=false:=by
     cases hx:hasN ((m0.map (·.1)).map σ) k with
     | false=>rfl
     | true =>
      obtain ⟨n,hn,e⟩:=List.mem_map.1 (hasN_iff.1 hx)
      exact absurd e (hk' n hn)
    rcases hf with hf | ⟨hf1,hf2⟩
    ·rw [hown] at hf;cases hf
    ·exact free_mrel (E:=E) ho.le hf1 hf2 ((hc.mem k o hk).other fun b hb=>ho.old b (hc.lt k b hb) (outside k b hb hk'))
  cel:=fun k b h=>by
   obtain ⟨o1,h1,h1'⟩:=hc.cel k b h
   rcases part k with ⟨n,hn,rfl⟩ | hk'
   ·obtain ⟨o,o',h2,h3,h4⟩:=hget n hn
    have hk:o.kind=0:=by
     have h5:=hm n o h2
     rw [h1] at h5
     have h6:=Option.some.inj (Option.some.inj h5)
     rw [← kind_ren σ,← h6]
     exact boxy_kind h1'
    rw [hat n o' h3]
    exact ⟨_,rfl,kind_box (by rw [kind_ren,← h4,hk])⟩
   ·rw [hnot k hk'];exact ⟨o1,h1,h1'⟩
  rw:=fun k x h=>by
   rcases part k with ⟨n,hn,rfl⟩ | hk'
   ·obtain ⟨o,o',h2,h3,h4⟩:=hget n hn
    refine ⟨_,hat n o' h3,?_⟩
    rw [hv.rw hn] at h
    refine kind_row ?_
    rw [kind_ren]
    by_cases hh:n∈hid
    ·have:=(List.all_eq_true.1 hok.hrow) _ h3
     simp only [hasN_iff.2 hh,Bool.not_true,Bool.false_or] at this
     exact Nat.eq_of_beq_eq_true this
    ·have h1:hasN hid n=false:=by
      cases hx:hasN hid n with
      | false=>rfl
      | true=>exact absurd (hasN_iff.1 hx) hh
     rw [ho.same n h1] at h
     simp only [Env.via,hasN_iff.2 hn,if_true] at h
     obtain ⟨o2,h5,h6⟩:=hc.rw _ _ h
     rw [hm n o h2] at h5
     cases h5
     rw [← h4,← kind_ren σ];exact rowy_kind h6
   ·rw [after_rw_not fun n hn=>hk' n (hsub n hn)] at h
    rw [hnot k hk']
    exact hc.rw k x h
  mp:=fun k b h=>by
   obtain ⟨kagg,agg,ents,h1⟩:=hc.mp k b h
   rcases part k with ⟨n,hn,rfl⟩ | hk'
   ·obtain ⟨o,o',h2,h3,h4⟩:=hget n hn
    have hk:o.kind=2:=by
     have h5:=hm n o h2
     rw [← kind_ren σ]
     rw [h1] at h5
     have h6:=Option.some.inj (Option.some.inj h5)
     rw [← h6];rfl
    obtain ⟨kagg',agg',ents',h7⟩:=kind_map (o:=o'.ren σ) (by rw [kind_ren,← h4,hk])
    rw [hat n o' h3,h7]
    exact ⟨kagg',agg',ents',rfl⟩
   ·rw [hnot k hk'];exact ⟨kagg,agg,ents,h1⟩
  inj:=fun k k' b h h'=>by
   rcases part k with ⟨n,hn,rfl⟩ | hk<;>rcases part k' with ⟨n',hn',rfl⟩ | hk'
   ·rw [ho.inj n n' b ((hv.holds hn).1 h) ((hv.holds hn').1 h')]
   ·have h1:=(ho.place n b ((hv.holds hn).1 h)).2.2
    have h2:=(hv.holds_not hk').1 h'
    rcases h1 with h1 | ⟨n2,h1⟩
    ·have:=hc.lt k' b h2;omega
    ·exact absurd h1 (outside k' b h2 hk' n2)
   ·have h1:=(ho.place n' b ((hv.holds hn').1 h')).2.2
    have h2:=(hv.holds_not hk).1 h
    rcases h1 with h1 | ⟨n2,h1⟩
    ·have:=hc.lt k b h2;omega
    ·exact absurd h1 (outside k b h2 hk n2)
   ·exact hc.inj k k' b ((hv.holds_not hk).1 h) ((hv.holds_not hk').1 h')
  apart:=fun k b h=>by
   rcases part k with ⟨n,hn,rfl⟩ | hk
   ·exact (ho.place n b ((hv.holds hn).1 h)).1
   ·have h2:=(hv.holds_not hk).1 h
    exact ho.nk b (hc.lt k b h2) (hc.apart k b h2)
  new:=fun k b h=>by
   rcases part k with ⟨n,hn,rfl⟩ | hk
   ·rcases (ho.place n b ((hv.holds hn).1 h)).2.2 with h1 | ⟨n2,h1⟩
    ·have h2:E.c.w0.heap.size≤w.heap.size:=hc.size
     exact .inl (Nat.le_trans h2 h1)
    ·exact hc.new _ b (holds_via.1 h1).2
   ·exact hc.new k b ((hv.holds_not hk).1 h)
  lt:=fun k b h=>by
   rcases part k with ⟨n,hn,rfl⟩ | hk
   ·exact (ho.place n b ((hv.holds hn).1 h)).2.1
   ·exact Nat.lt_of_lt_of_le (hc.lt k b ((hv.holds_not hk).1 h)) ho.size
  os:=ho.os.trans hc.os
  tape:=ho.tape.trans hc.tape
  output:=ho.output.trans hc.output
  size:=Nat.le_trans hc.size ho.size
  old:=fun b h1 h2=>by
   have h1':b<E.c.w0.heap.size:=h1
   refine (ho.old b (Nat.lt_of_lt_of_le h1 hc.size) (fun n hn=>?_)).trans (hc.old b h1 h2)
   rcases hc.new _ b (holds_via.1 hn).2 with h3 | h3
   ·omega
   ·exact h2 h3
  j:=hc.j
  y:=hc.y
  dsk:=fun D hD=>⟨ho.le _ _ (hc.dsk D hD).1,(hc.dsk D hD).2⟩
  dsn:=hc.dsn }
def renM(σ:Nat→Nat)(l:List (Nat×MO)):List (Nat×MO):=l.map fun x=>(σ x.1,x.2.ren σ)
structure RenOk (hid:List Nat) (args:List CV) (m0:List (Nat×MO)) (r:SB) (m1:List (Nat×MO)) (σ:Nat→Nat):Prop where
 kinds:kindsEq m0 m1=true
 dup:dupFree ((m0.map (·.1)).map σ)=true
 sub:hid.all (hasN (m0.map (·.1)))=true
 in0:m0.all (fun x=>x.2.inN (m0.map (·.1)))=true
 in1:m1.all (fun x=>x.2.inN (m0.map (·.1)))=true
 ina:args.all (CV.inN (m0.map (·.1)))=true
 inr:r.inN (m0.map (·.1))=true
theorem FOwn.ren{f:FuncId}{hid:List Nat}{args:List CV}{m0 m1:List (Nat×MO)}{r:SB}(h:FOwn P f hid args m0 r m1)(σ:Nat→Nat)(hok:RenOk hid args m0 r m1 σ):FOwn P f (hid.map σ) (args.map (CV.ren σ)) (renM σ m0) (r.ren σ) (renM σ m1):=by
 refine ⟨h.1,fun E w vs hKl hK hat hsz hrel=>?_⟩
 have hinj:InjOn σ (m0.map (·.1)):=injOn_of (dupFree_nodup hok.dup)
 have hsub:∀ n,n∈hid→n∈m0.map (·.1):=fun n hn=>hasN_iff.1 ((List.all_eq_true.1 hok.sub) n hn)
 have hnames:=kindsEq_names hok.kinds
 have hin:∀ n o,(n,o)∈m0→hasN (m0.map (·.1)) n=true:=fun n o h=>hasN_iff.2 (List.mem_map_of_mem (f:=(·.1)) h)
 have hmem0:∀ n o,(n,o)∈m0→(σ n,o.ren σ)∈renM σ m0:=fun n o h=>List.mem_map_of_mem (f:=fun x:Nat×MO=>(σ x.1,x.2.ren σ)) h
 have back0:∀ n o,hasN (m0.map (·.1)) n=true→(σ n,o)∈renM σ m0→∃ o',(n,o')∈m0∧o=o'.ren σ:=fun n o hn h=>by
  obtain ⟨⟨n',o'⟩,h1,h2⟩:=List.mem_map.1 h
  simp only [Prod.mk.injEq] at h2
  obtain ⟨h2,h3⟩:=h2
  have:n'=n:=hinj n' n (hasN_iff.1 (hin n' o' h1)) (hasN_iff.1 hn) h2
  subst this
  exact ⟨o',h1,h3.symm⟩
 have hat':OwnAt (E.via σ (m0.map (·.1))) m0 w:=by
  refine ⟨fun n o h=>?_,fun n n' b h h'=>?_,fun n b h=>?_,fun n b h=>?_,fun n x h=>?_,fun n b h=>?_⟩
  ·exact via_mrel (hin n o h) ((List.all_eq_true.1 hok.in0) _ h) (hat.mem _ _ (hmem0 n o h))
  ·obtain ⟨h1,h2⟩:=holds_via.1 h
   obtain ⟨h3,h4⟩:=holds_via.1 h'
   exact hinj n n' (hasN_iff.1 h1) (hasN_iff.1 h3) (hat.inj _ _ b h2 h4)
  ·exact hat.place _ b (holds_via.1 h).2
  ·simp only [Env.via] at h
   split at h
   case isFalse=>cases h
   rename_i hn
   obtain ⟨o1,h1,h1'⟩:=hat.cel _ _ h
   obtain ⟨o',h2,h3⟩:=back0 n _ hn h1
   exact ⟨o',h2,kind_box (by rw [← kind_ren σ,← h3];exact boxy_kind h1')⟩
  ·simp only [Env.via] at h
   split at h
   case isFalse=>cases h
   rename_i hn
   obtain ⟨o,h1,h1'⟩:=hat.rw _ _ h
   obtain ⟨o',h2,h3⟩:=back0 n _ hn h1
   exact ⟨o',h2,kind_row (by rw [← kind_ren σ,← h3];exact rowy_kind h1')⟩
  ·simp only [Env.via] at h
   split at h
   case isFalse=>cases h
   rename_i hn
   obtain ⟨kagg,agg,ents,h1⟩:=hat.mp _ _ h
   obtain ⟨o',h2,h3⟩:=back0 n _ hn h1
   obtain ⟨kagg',agg',ents',rfl⟩:=kind_map (o:=o') (by rw [← kind_ren σ,← h3];rfl)
   exact ⟨kagg',agg',ents',h2⟩
 refine (h.2 (E.via σ (m0.map (·.1))) w vs hKl hK hat' (by simpa using hsz) (fun j hj=>?_)).mono ?_
 ·have:=hrel j (by simpa using hj)
  have e:(args.map (CV.ren σ)).getD j (.c .junk)=(args.getD j (.c .junk)).ren σ:=by simp [gE,hj]
  rw [e] at this
  exact via_relCV ((List.all_eq_true.1 hok.ina) _ (by simp [gE,hj])) this
 ·rintro e w' ⟨K',rw',v,rfl,ho,hv⟩
  have hviews:Views E σ (m0.map (·.1)) hid rw':=⟨hinj,hsub,ho.same⟩
  have hown:∀ k b,E.holds k b→∃ n,n∈m0.map (·.1)∧σ n=k:=fun k b h=>by
   have h2:∃ o,(k,o)∈renM σ m0:=by
    rcases h with h | h | ⟨hd,len,h,_⟩
    ·obtain ⟨o1,h1,_⟩:=hat.cel _ _ h;exact ⟨_,h1⟩
    ·obtain ⟨kagg,agg,ents,h1⟩:=hat.mp _ _ h;exact ⟨_,h1⟩
    ·obtain ⟨o,h1,_⟩:=hat.rw _ _ h;exact ⟨_,h1⟩
   obtain ⟨o,h2⟩:=h2
   obtain ⟨⟨n,o'⟩,h3,h4⟩:=List.mem_map.1 h2
   simp only [Prod.mk.injEq] at h4
   exact ⟨n,List.mem_map_of_mem (f:=(·.1)) h3,h4.1⟩
  have hown':∀ k b,(E.after σ hid K' rw').holds k b→∃ n,n∈m0.map (·.1)∧σ n=k:=fun k b h=>by
   by_cases hk:∃ n,n∈m0.map (·.1)∧σ n=k
   ·exact hk
   ·exact hown k b ((hviews.holds_not fun n hn e=>hk ⟨n,hn,e⟩).1 h)
  refine ⟨K',(E.after σ hid K' rw').rw,v,rfl,⟨ho.le,ho.nk,ho.know,fun k hk=>after_rw_not (not_hid hk),fun k o hk=>?_,fun k k' b h h'=>?_,fun k b h=>?_,ho.os,ho.tape,ho.output,ho.size,fun b h1 h2=>ho.old b h1 fun n hn=>h2 _ (holds_via.1 hn).2⟩,back_relSB hviews hok.inr hv⟩
  ·obtain ⟨⟨n,o'⟩,h1,h2⟩:=List.mem_map.1 hk
   simp only [Prod.mk.injEq] at h2
   obtain ⟨rfl,rfl⟩:=h2
   have hn:n∈m0.map (·.1):=by rw [← hnames];exact List.mem_map_of_mem (f:=(·.1)) h1
   exact back_mrel hviews (hasN_iff.2 hn) ((List.all_eq_true.1 hok.in1) _ h1) (ho.mem n o' h1)
  ·obtain ⟨n,hn,rfl⟩:=hown' k b h
   obtain ⟨n',hn',rfl⟩:=hown' k' b h'
   rw [ho.inj n n' b ((hviews.holds hn).1 h) ((hviews.holds hn').1 h')]
  ·obtain ⟨n,hn,rfl⟩:=hown' k b h
   obtain ⟨h1,h2,h3⟩:=ho.place n b ((hviews.holds hn).1 h)
   refine ⟨h1,h2,?_⟩
   rcases h3 with h3 | ⟨n',h3⟩
   ·exact .inl h3
   ·exact .inr ⟨_,(holds_via.1 h3).2⟩
theorem C.ren_id(c:C):c.ren (fun n=>n)=c:=by
 cases c<;>first | rfl | skip
 simp [C.ren]
theorem map_ren_id(cs:List C):cs.map (C.ren fun n=>n)=cs:=by
 induction cs with
 | nil=>rfl
 | cons c cs ih=>rw [List.map_cons,ih,C.ren_id]
theorem MO.ren_id(o:MO):o.ren (fun n=>n)=o:=by
 cases o<;>first | rfl | simp only [MO.ren,map_ren_id]
theorem CV.ren_id(x:CV):x.ren (fun n=>n)=x:=by
 cases x with
 | c x=>simp only [CV.ren,C.ren_id]
 | agg cs=>rfl
 | pagg cs=>simp only [CV.ren,map_ren_id]
theorem SB.ren_id(x:SB):x.ren (fun n=>n)=x:=by
 cases x with
 | v x=>simp only [SB.ren,CV.ren_id]
 | tup xs =>
  have:∀ l:List CV,l.map (CV.ren fun n=>n)=l:=fun l=>by
   induction l with
   | nil=>rfl
   | cons x l ih=>rw [List.map_cons,ih,CV.ren_id]
  simp only [SB.ren,this]
def putN:List (Option MO)→List (Nat×MO)→List (Option MO)
 | m,[]=>m
 | m,(n,o) :: r=>putN (m.set n (some o)) r
theorem putL_id:∀ {l:List (Nat×MO)} {m:List (Option MO)},putL (fun n=>n) m l=putN m l:=by
 intro l
 induction l with
 | nil=>intro m;rfl
 | cons x l ih=>intro m;obtain ⟨n,o⟩:=x;simp only [putL,putN,MO.ren_id,ih]
def takeM(m:List (Option MO)):List Nat→Option (List (Nat×MO))
 | []=>some []
 | n :: ns=>match m[n]?,takeM m ns with
  | some (some o),some r=>some ((n,o) :: r)
  | _,_=>none
theorem takeM_spec{m:List (Option MO)}:∀ {ns:List Nat} {l:List (Nat×MO)},takeM m ns=some l→l.map (·.1)=ns∧∀ n o,(n,o)∈l→m[n]?=some (some o):=by
 intro ns
 induction ns with
 | nil=>intro l h;simp only [takeM,Option.some.injEq] at h;subst h;exact ⟨rfl,fun n o h=>by cases h⟩
 | cons n ns ih =>
  intro l h
  simp only [takeM] at h
  split at h
  case h_2=>cases h
  rename_i o r h1 h2
  cases h
  obtain ⟨g1,g2⟩:=ih h2
  refine ⟨by simp [g1],fun n' o' h=>?_⟩
  rcases List.mem_cons.1 h with h | h
  ·cases h;exact h1
  ·exact g2 n' o' h
def calleeOf:SB→Option (FuncId×List CV×List CV)
 | .v (.c (.clo fn caps))=>some (fn,[],caps.map .c)
 | .v (.c (.oclo false fn caps))=>some (fn,[],caps.map fun p=>.c (.ptr p.1 p.2))
 | .v (.c (.oclo true fn caps))=>some (fn,caps.map fun p=>.c (.ptr p.1 p.2),[])
 | _=>none
def dropSV(hs:List Nat)(x:SV):SV:=match freeSV hs x with
 | true=>x
 | false=>.junk
theorem dropSV_eq{hs:List Nat}{x:SV}:dropSV hs x=.junk∨(dropSV hs x=x∧freeSV hs x=true):=by
 unfold dropSV
 cases freeSV hs x
 ·exact .inl rfl
 ·exact .inr ⟨rfl,rfl⟩
def ownCk(hid:List Nat)(m0 m1:List (Nat×MO))(args:List CV)(r:SB)(s:S):Bool:=
 kindsEq m0 m1&&dupFree (m0.map (·.1))&&hid.all (hasN (m0.map (·.1)))&&m0.all (fun x=>x.2.inN (m0.map (·.1)))&&m1.all (fun x=>x.2.inN (m0.map (·.1)))&&m1.all (fun x=>!hasN hid x.1||Nat.beq x.2.kind 1) &&
  freeM hid (m0.map (·.1)) s.m 0&&args.all (CV.inN (m0.map (·.1)))&&r.inN (m0.map (·.1))
def stepOwn(P:Program)(ops:Array Oper)(i:Nat)(h:Hint)(s:S):Option (S×List Ask):=
 match h with
 | .own ns hid r m1=>match ops[i]? with
  | some o=>match o.op,o.guard with
   | .call c,none=>match c.callee with
    | .value f=>match s.ev [] f,evAll s [] c.args.toList,takeM s.m ns with
     | some fv,some vs,some m0=>match calleeOf fv,allV vs with
      | some (fn,pre,caps),some xs=>match ownCk hid m0 m1 (pre++(xs++caps)) r s with
       | true=>some ({ t:=setSlot (s.t.map (dropSV hid)) o.dst (.b r),m:=putN s.m m1,g:=s.g.set i (outcomeAt o.dst r) },[⟨true,FOwn P fn hid (pre++(xs++caps)) m0 r m1⟩])
       | false=>none
      | _,_=>none
     | _,_,_=>none
    | _=>none
   | _,_=>none
  | none=>none
 | _=>none
theorem stepOwn_some{ops:Array Oper}{i:Nat}{h:Hint}{s s':S}{q:List Ask}(hst:stepOwn P ops i h s=some (s',q)):
  ∃ ns hid r m1 o c f fv vs m0 fn pre caps xs,h=.own ns hid r m1∧ops[i]?=some o∧o.op=.call c∧o.guard=none∧c.callee=.value f∧s.ev [] f=some fv∧evAll s [] c.args.toList=some vs∧takeM s.m ns=some m0∧calleeOf fv=some (fn,pre,caps)∧allV vs=some xs ∧
   ownCk hid m0 m1 (pre++(xs++caps)) r s=true∧s'={ t:=setSlot (s.t.map (dropSV hid)) o.dst (.b r),m:=putN s.m m1,g:=s.g.set i (outcomeAt o.dst r) }∧q=[⟨true,FOwn P fn hid (pre++(xs++caps)) m0 r m1⟩]:=by
 unfold stepOwn at hst
 split at hst
 case h_2=>cases hst
 rename_i ns hid r m1
 split at hst
 case h_2=>cases hst
 rename_i o ho
 split at hst
 case h_2=>cases hst
 rename_i c hop hg
 split at hst
 case h_2=>cases hst
 rename_i f hf
 split at hst
 case h_2=>cases hst
 rename_i fv vs m0 h1 h2 h3
 split at hst
 case h_2=>cases hst
 rename_i fn pre caps xs h4 h5
 split at hst
 case h_2=>cases hst
 rename_i h6
 cases hst
 exact ⟨ns,hid,r,m1,o,c,f,fv,vs,m0,fn,pre,caps,xs,rfl,ho,hop,hg,hf,h1,h2,h3,h4,h5,h6,rfl,rfl⟩
theorem rsim_put2{ops:Array Oper}{s:S}{a:Act}{i:Nat}{o:Oper}{hid:List Nat}{v:SB}{u:Value}{m':List (Option MO)}{w':World}{E':Env}(hs:RSim B E ops s a w)(hd:Distinct ops s.t.length) 
  (hi:s.g[i]?=some none) (ho:ops[i]?=some o) (hcc:E'.c=E.c) (hsl:∀ (k:Nat) (x:SV) (u:Value),s.t[k]?=some x→freeSV hid x=true→RelSV E s.g x u→RelSV E' s.g x u) (hc:Core B E' m' w') (h1:RelSB E' v u) :
  RSim B E' ops { t:=setSlot (s.t.map (dropSV hid)) o.dst (.b v),m:=m',g:=s.g.set i (outcomeAt o.dst v) } (a.put o.dst u) w':=by
 have hmay:∀ (k:Nat) (p:Path) (x:SB),(s.t.map (dropSV hid))[k]?=some (SV.may p x)→s.t[k]?=some (SV.may p x):=fun k p x hk=>by
  simp only [List.getElem?_map,Option.map_eq_some_iff] at hk
  obtain ⟨y,hy,h⟩:=hk
  rcases dropSV_eq (hs:=hid) (x:=y) with h2 | ⟨h2,_⟩
  ·rw [h2] at h;cases h
  ·rw [h2] at h;rw [← h];exact hy
 have hpok0:POk { s with t:=s.t.map (dropSV hid) }:=fun k p x hk=>hs.pok k p x (hmay k p x hk)
 have hpok:POk { t:=setSlot (s.t.map (dropSV hid)) o.dst (.b v),m:=m',g:=s.g.set i (outcomeAt o.dst v) }:=pok_put (s:={ s with t:=s.t.map (dropSV hid) }) (p:=[]) hpok0 hi (fun j b h=>by cases h)
 refine ⟨⟨hc,?_,?_,?_⟩,?_,hpok⟩
 ·rw [put_size,setSlot_length,List.length_map];exact hs.sim.size
 ·rw [put_defers',hcc];exact hs.sim.defers
 ·intro k x hk
  rcases setSlot_get hk with ⟨hdst,rfl,hlt⟩ | ⟨hdst,hk'⟩
  ·rw [hdst,put_getD_same (by rw [hs.sim.size];simpa using hlt)]
   exact h1
  ·rw [put_getD hdst]
   simp only [List.getElem?_map,Option.map_eq_some_iff] at hk'
   obtain ⟨y,hy,h⟩:=hk'
   rcases dropSV_eq (hs:=hid) (x:=y) with h2 | ⟨h2,h3⟩
   ·rw [h2] at h;rw [← h];trivial
   ·rw [h2] at h
    subst h
    have hold:=hsl k y _ hy h3 (hs.sim.slot k y hy)
    cases y with
    | junk=>trivial
    | b y=>exact hold
    | pin k y=>exact hold
    | may q y =>
     show (holds _ q=true→_)∧(holds _ q=false→_)
     rw [holds_set hi (hs.pok k q y hy).1]
     exact hold
 ·intro j b hj
  simp only [List.getElem?_set] at hj
  by_cases hij:i=j
  ·subst hij
   rw [if_pos rfl] at hj
   split at hj
   ·have hob:outcomeAt o.dst v=some b:=Option.some.inj hj
    cases hdst:o.dst with
    | none=>simp [hdst,outcomeAt] at hob
    | some d =>
     simp only [hdst,outcomeAt] at hob
     have hv:v=.v (.c (.bool b)):=by
      unfold outcome at hob
      split at hob
      ·cases hob;rfl
      ·cases hob
     subst hv
     refine ⟨o,d,ho,hdst,?_⟩
     have hlt:=hd.2 i o d ho hdst
     rw [setSlot_same (by simpa using hlt)]
     exact .inl rfl
   ·cases hj
  ·rw [if_neg hij] at hj
   obtain ⟨oj,d,hoj,hdj,hsl'⟩:=hs.gok j b hj
   refine ⟨oj,d,hoj,hdj,?_⟩
   have:o.dst≠some d:=fun e=>hij (hd.1 i j o oj d ho hoj e hdj)
   rw [setSlot_other this]
   simp only [List.getElem?_map]
   rcases hsl' with h | ⟨p,h⟩
   ·left;rw [h];rfl
   ·right;exact ⟨p,by rw [h];rfl⟩
theorem map_id_hid(l:List Nat):l.map (fun n=>n)=l:=by simp
theorem relApp{l1 l2:List CV}{a1 a2:Array Value}(h1:a1.size=l1.length)(h2:a2.size=l2.length)(r1:∀ j,j<l1.length→RelCV E (l1.getD j (.c .junk)) (a1.getD j undef))(r2:∀ j,j<l2.length→RelCV E (l2.getD j (.c .junk)) (a2.getD j undef)):
  (a1++a2).size=(l1++l2).length∧∀ j,j<(l1++l2).length→RelCV E ((l1++l2).getD j (.c .junk)) ((a1++a2).getD j undef):=by
 refine ⟨by simp;omega,fun j hj=>?_⟩
 by_cases hjx:j<l1.length
 ·have e1:(l1++l2).getD j (.c .junk)=l1.getD j (.c .junk):=by
   simp [gE,List.getElem?_append_left hjx]
  have e2:(a1++a2).getD j undef=a1.getD j undef:=by
   have:j<a1.size:=by omega
   simp [Array.getElem?_append,this]
  rw [e1,e2]
  exact r1 j hjx
 ·have hjc:j - l1.length<l2.length:=by simp at hj;omega
  have e1:(l1++l2).getD j (.c .junk)=l2.getD (j - l1.length) (.c .junk):=by
   simp [gE,List.getElem?_append_right (Nat.le_of_not_lt hjx)]
  have e2:(a1++a2).getD j undef=a2.getD (j - l1.length) undef:=by
   have h3:¬ j<a1.size:=by omega
   simp [Array.getElem?_append,hjx,h1]
  rw [e1,e2]
  exact r2 _ hjc
theorem stepOwn_sound{ops:Array Oper}{i:Nat}{h:Hint}{s s':S}{q:List Ask}{a:Act}(hst:stepOwn P ops i h s=some (s',q))(hq:allA q)(hs:RSim B E ops s a w)(hd:Distinct ops s.t.length)(hi:s.g[i]?=some none) 
  {K:Act→World→Prop} {Q:Exit→Act→World→Prop} (hK:∀ a' w' E',RSim B E' ops s' a' w'→K a' w'):wpOpIn (FB B.r) 0 P ops Q i K a w:=by
 obtain ⟨ns,hid,r,m1,o,c,f,fv,vs,m0,fn,pre,caps,xs,rfl,ho,hop,hgd,hcal,hf,hargs,hm0,hfn,hx,hck,rfl,rfl⟩:=stepOwn_some hst
 simp only [ownCk,Bool.and_eq_true] at hck
 obtain ⟨⟨⟨⟨⟨⟨⟨⟨k1,k2⟩,k3⟩,k4⟩,k5⟩,k6⟩,k7⟩,k9⟩,k10⟩:=hck
 obtain ⟨n1,n2⟩:=takeM_spec hm0
 have hc:=hs.sim.core
 have hok:OwnOk hid m0 m1 (fun n=>n) s.m:=⟨k1,by rw [map_id_hid];exact k2,k3,k4,k5,k6,by rw [map_id_hid,map_id_hid];exact k7⟩
 have hm:∀ n o,(n,o)∈m0→s.m[(fun n=>n) n]?=some (some (o.ren fun n=>n)):=fun n o h=>by rw [MO.ren_id];exact n2 n o h
 have hgp:guardPath ops s o=some []:=by unfold guardPath;rw [hgd]
 obtain ⟨hw,_⟩:=wanted_iff hs hgp
 have hcon:FOwn P fn hid (pre++(xs++caps)) m0 r m1:=hq.1 rfl
 unfold wpOpIn
 simp only [ho]
 rw [hw]
 simp only [holds,if_true]
 have hfr:RelSB E fv (a.eval f):=ev_rel (p:=[]) hs.sim rfl hf
 have hptrs:∀ (cs:List (Nat×Nat)) (cvs:Array Value),(∀ j,j<cs.length→RelP E (cs.getD j (0,0)).1 (cs.getD j (0,0)).2 (cvs.getD j undef))→∀ j,j<(cs.map fun p=>CV.c (.ptr p.1 p.2)).length→RelCV E ((cs.map fun p=>CV.c (.ptr p.1 p.2)).getD j (.c .junk)) (cvs.getD j undef):=by
  intro cs cvs h2 j hj
  have hj':j<cs.length:=by simpa using hj
  have e:(cs.map fun p=>CV.c (.ptr p.1 p.2)).getD j (.c .junk)=.c (.ptr (cs.getD j (0,0)).1 (cs.getD j (0,0)).2):=by simp [gE,hj']
  rw [e]
  have h3:=h2 j hj'
  refine ⟨h3,?_⟩
  obtain ⟨b,_,hu⟩:=h3
  rw [hu];rfl
 obtain ⟨pvs,cvs,hfe,hps,hpr,hcs,hcr⟩:∃ pvs cvs:Array Value,a.eval f=.func (.func fn) pvs cvs∧pvs.size=pre.length∧(∀ j,j<pre.length→RelCV E (pre.getD j (.c .junk)) (pvs.getD j undef))∧cvs.size=caps.length∧∀ j,j<caps.length→RelCV E (caps.getD j (.c .junk)) (cvs.getD j undef):=by
  unfold calleeOf at hfn
  split at hfn
  ·rename_i fn' cs
   cases hfn
   have hk:RelK E.K (.clo fn cs) (a.eval f):=relSB_c hfr
   generalize a.eval f=u at hk
   cases hk with
   | clo _ _ cvs h1 h2 h3 =>
    refine ⟨#[],cvs,rfl,rfl,fun j hj=>by simp at hj,by simpa using h1,fun j hj=>?_⟩
    have hj':j<cs.length:=by simpa using hj
    have e:(cs.map CV.c).getD j (.c .junk)=.c (cs.getD j .junk):=by simp [gE,hj']
    rw [e]
    exact ⟨Rel.of_relK (h2 j hj'),h3 j hj'⟩
  ·rename_i fn' cs
   cases hfn
   obtain ⟨cvs,hu,h1,h2⟩:∃ cvs:Array Value,a.eval f=cloV false fn cvs∧cvs.size=cs.length∧∀ j,j<cs.length→RelP E (cs.getD j (0,0)).1 (cs.getD j (0,0)).2 (cvs.getD j undef):=hfr.1
   exact ⟨#[],cvs,hu,rfl,fun j hj=>by simp at hj,by simpa using h1,hptrs cs cvs h2⟩
  ·rename_i fn' cs
   cases hfn
   obtain ⟨cvs,hu,h1,h2⟩:∃ cvs:Array Value,a.eval f=cloV true fn cvs∧cvs.size=cs.length∧∀ j,j<cs.length→RelP E (cs.getD j (0,0)).1 (cs.getD j (0,0)).2 (cvs.getD j undef):=hfr.1
   exact ⟨cvs,#[],hu,by simpa using h1,hptrs cs cvs h2,rfl,fun j hj=>by simp at hj⟩
  ·cases hfn
 have hv:=evAll_rel hs.sim (p:=[]) rfl hargs
 obtain ⟨l1,l2⟩:=allV_rel (us:=c.args.toList.map a.eval) (E:=E) hx (by simpa using hv.1) (fun j v u hj hu=>by
  rw [List.getElem?_map] at hu
  simp only [Option.map_eq_some_iff] at hu
  obtain ⟨z,hz,rfl⟩:=hu
  exact hv.2 j z v (by simpa using hz) hj)
 have l1':xs.length=c.args.size:=by simpa using l1
 obtain ⟨z1,z2⟩:=relApp (E:=E) (l1:=xs) (a1:=c.args.map a.eval) (by simp [l1']) hcs (fun j hj=>by
  have e2:(c.args.map a.eval).getD j undef=(c.args.toList.map a.eval).getD j undef:=by
   have:j<c.args.size:=by omega
   simp [gE,this]
  rw [e2]
  exact l2 j hj) hcr
 obtain ⟨hsz,hrel⟩:=relApp (E:=E) (l1:=pre) (a1:=pvs) hps z1 hpr z2
 obtain ⟨⟨fnc,hfn',hbody,hname⟩,hcall⟩:=hcon
 refine wpIn_of (by intro c hc;rw [hop] at hc;cases hc) ?_
 have hrun:(execOp a.eval o).run P w=.ok (.enter fn (pvs++(c.args.map a.eval++cvs))) w:=by
  have hb:fnc.body.isNone=false:=by cases hfb:fnc.body<;>simp [hfb] at hbody ⊢
  simp only [execOp,hop,resolve,hcal,hfe,Deferred.ofValue,invoke,callFunc,Sem.run_bind,Sem.run_pure,Result.andThen_ok,run_program,hfn',hname,hb,Bool.false_eq_true,if_false,Array.append_assoc]
 rw [hrun]
 refine ⟨fun h=>absurd h (by simp [FB]),?_⟩
 have hview:∀ j,j<(pre++(xs++caps)).length→RelCV (E.via (fun n=>n) (m0.map (·.1))) ((pre++(xs++caps)).getD j (.c .junk)) ((pvs++(c.args.map a.eval++cvs)).getD j undef):=fun j hj =>
  via_relCV ((List.all_eq_true.1 k9) _ (by simp only [gE,List.getElem?_eq_getElem hj,Option.getD_some];exact List.getElem_mem hj)) (by rw [CV.ren_id];exact hrel j hj)
 refine callsIn_of_plain (Calls.mono (hcall (E.via (fun n=>n) (m0.map (·.1))) w _ hc.laid hc.know (hc.ownAt hok hm) hsz hview) ?_)
 rintro e w' ⟨K',rw',v,rfl,hout,hv'⟩
 have hcore:=hc.owned hok hm hout
 rw [putL_id] at hcore
 have hviews:Views E (fun n=>n) (m0.map (·.1)) hid rw':=⟨fun a b _ _ h=>h,fun n hn=>hasN_iff.1 ((List.all_eq_true.1 k3) n hn),hout.same⟩
 refine hK _ w' _ (rsim_put2 (E':=E.after (fun n=>n) hid K' rw') hs hd hi ho rfl (fun k x u hk hfr hr=>?_) hcore ?_)
 ·exact free_relSV (E:=E) hout.le (by rw [map_id_hid];exact hfr) hr
 ·have:=back_relSB hviews k10 hv'
  rwa [SB.ren_id] at this
theorem stepOwn_t{ops:Array Oper}{i:Nat}{h:Hint}{s s':S}{q:List Ask}(hst:stepOwn P ops i h s=some (s',q)):s'.t.length=s.t.length∧∀ j,i≠j→s'.g[j]?=s.g[j]?:=by
 obtain ⟨ns,hid,r,m1,o,c,f,fv,vs,m0,fn,pre,caps,xs,rfl,ho,hop,hgd,hcal,hf,hargs,hm0,hfn,hx,hck,rfl,rfl⟩:=stepOwn_some hst
 exact ⟨by rw [setSlot_length,List.length_map],fun j hj=>by simp [hj]⟩
end Go.Sym
