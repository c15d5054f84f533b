/- Part of the proof of the statement that the claim's last text names: contracts of functions and laws of the symbolic layer. -/
import Derived.Test.YtidbmbpeblmliaaGreatDoorO10
import Derived.Laws.BitsLemmas
set_option linter.unusedVariables false
set_option linter.unusedSimpArgs false
namespace Go.Sym
open Go.RowKit
variable {P:Program} {B:Base P} {E:Env} {w:World}
def C.noY:C→Bool
 | .yld _=>false
 | _=>true
def CV.noY:CV→Bool
 | .c x=>x.noY
 | .agg _=>true
 | .pagg cs=>cs.all C.noY
def SB.noY:SB→Bool
 | .v x=>x.noY
 | .tup xs=>xs.all CV.noY
def SV.noY:SV→Bool
 | .junk=>true
 | .b x=>x.noY
 | .may _ x=>x.noY
 | .pin _ x=>x.noY
def MO.noY:MO→Bool
 | .pcells cs=>cs.all C.noY
 | .tcells _ cs=>cs.all C.noY
 | .cnt _ _ _=>false
 | _=>true
def noYt:List SV→Bool
 | []=>true
 | x :: r=>x.noY&&noYt r
def noYm:List (Option MO)→Bool
 | []=>true
 | x :: r=>(match x with | some o=>o.noY | none=>true)&&noYm r
def S.noY(s:S):Bool:=noYt s.t&&noYm s.m
theorem noYt_get:∀ {l:List SV} {k:Nat} {x:SV},noYt l=true→l[k]?=some x→x.noY=true:=by
 intro l
 induction l with
 | nil=>intro k x _ h;simp at h
 | cons y l ih =>
  intro k x h hk
  simp only [noYt,Bool.and_eq_true] at h
  cases k with
  | zero=>simp at hk;subst hk;exact h.1
  | succ k=>exact ih h.2 (by simpa using hk)
theorem noYm_get:∀ {l:List (Option MO)} {k:Nat} {o:MO},noYm l=true→l[k]?=some (some o)→o.noY=true:=by
 intro l
 induction l with
 | nil=>intro k x _ h;simp at h
 | cons y l ih =>
  intro k x h hk
  simp only [noYm,Bool.and_eq_true] at h
  cases k with
  | zero=>simp at hk;subst hk;exact h.1
  | succ k=>exact ih h.2 (by simpa using hk)
theorem all_getD{α:Type}{p:α→Bool}{l:List α}{d:α}(h:l.all p=true)(j:Nat)(hj:j<l.length):p (l.getD j d)=true:=by
 rw [List.all_eq_true] at h
 exact h (l.getD j d) (by simp [gE,hj])
def Env.re(E:Env)(K:Know)(c:Cst):Env:={ K:=K,cel:=E.cel,rw:=E.rw,mp:=E.mp,c:=c }
theorem rel_re{K:Know}{cc:Cst}{c:C}{u:Value}(hK:E.K.le K)(hc:c.noY=true)(h:Rel E c u):Rel (E.re K cc) c u:=by
 cases c with
 | yld n=>cases hc
 | ptr=>exact h
 | row=>exact h
 | rel=>exact h
 | oclo=>exact h
 | omap=>exact h
 | _=>exact RelK.mono hK h
theorem relCV_re{K:Know}{cc:Cst}{c:CV}{u:Value}(hK:E.K.le K)(hc:c.noY=true)(h:RelCV E c u):RelCV (E.re K cc) c u:=by
 cases c with
 | c x=>exact ⟨rel_re hK hc h.1,h.2⟩
 | agg cs=>obtain ⟨arr,hu,hl⟩:=h;exact ⟨arr,hu,hl.mono hK⟩
 | pagg cs =>
  obtain ⟨arr,hu,hs,hr⟩:=h
  exact ⟨arr,hu,hs,fun j hj=>⟨rel_re hK (all_getD hc j hj) (hr j hj).1,(hr j hj).2⟩⟩
theorem relSB_re{K:Know}{cc:Cst}{c:SB}{u:Value}(hK:E.K.le K)(hc:c.noY=true)(h:RelSB E c u):RelSB (E.re K cc) c u:=by
 cases c with
 | v x=>exact relCV_re hK hc h
 | tup xs =>
  obtain ⟨vs,hu,hs,hr⟩:=h
  exact ⟨vs,hu,hs,fun j hj=>relCV_re hK (all_getD hc j hj) (hr j hj)⟩
theorem relSV_re{K:Know}{cc:Cst}{g:List (Option Bool)}{x:SV}{u:Value}(hK:E.K.le K)(hf:cc.fix=E.c.fix)(hc:x.noY=true)(h:RelSV E g x u):RelSV (E.re K cc) g x u:=by
 cases x with
 | junk=>trivial
 | b x=>exact relSB_re hK hc h
 | may p x=>exact ⟨fun hp=>relSB_re hK hc (h.1 hp),h.2⟩
 | pin k x=>exact ⟨relSB_re hK hc h.1,by show u=cc.fix k;rw [hf];exact h.2⟩
theorem mrel_re{K:Know}{cc:Cst}{n:Nat}{o:MO}(hK:E.K.le K)(ho:o.noY=true)(h:MRel E w n o):MRel (E.re K cc) w n o:=by
 cases o with
 | cells cs=>obtain ⟨b,arr,T,h1,h2,h3⟩:=h;exact ⟨b,arr,T,h1,h2,h3.mono hK⟩
 | pcells cs =>
  obtain ⟨b,arr,T,h1,h2,h3,h4⟩:=h
  exact ⟨b,arr,T,h1,h2,h3,fun j hj=>⟨rel_re hK (all_getD ho j hj) (h4 j hj).1,(h4 j hj).2⟩⟩
 | tcells T cs =>
  obtain ⟨b,arr,h1,h2,h0,h3,h4⟩:=h
  exact ⟨b,arr,h1,h2,h0,h3,fun j hj=>⟨rel_re hK (all_getD ho j hj) (h4 j hj).1,(h4 j hj).2⟩⟩
 | row e sz css=>obtain ⟨h1,h2,hd,xs,h3,h4,h5⟩:=h;exact ⟨h1,h2,hd,xs,h3,h4,h5.mono hK⟩
 | omap kagg agg ents=>obtain ⟨b,es,h1,h2,h3⟩:=h;exact ⟨b,es,h1,h2,h3.mono hK⟩
 | gone=>exact h
 | cnt i xs k=>cases ho
 | bag e sz css=>obtain ⟨css',hp,h1,h2,hd,xs,h3,h4,h5⟩:=h;exact ⟨css',hp,h1,h2,hd,xs,h3,h4,h5.mono hK⟩
theorem Core.re{B':Base P}{m:List (Option MO)}{w':World}{K:Know}{c:Cst}(hc:Core B E m w)(hm:noYm m=true)(hK:E.K.le K)(hkn:Knows K w')(hbase:c.K0.le K)(hnk:∀ b,b<c.w0.heap.size→c.K0 b=none→K b=none) 
  (hsame:∀ n b,E.holds n b→w'.heap[b]?=w.heap[b]?) (hap:∀ n b,E.holds n b→K b=none) (hnew:∀ n b,E.holds n b→c.w0.heap.size≤b∨B'.W b) (hos:w'.os=c.w0.os) (htape:w'.tape=c.w0.tape) (hout:w'.output=c.w0.output)
  (hsz:c.w0.heap.size≤w'.heap.size) (hold:∀ b,b<c.w0.heap.size→¬ B'.W b→w'.heap[b]?=c.w0.heap[b]?) (hj:B'.J c.i c.K0 c.w0) (hy:c.l=B'.l∧c.xs=B'.xs∧c.k=B'.k∧c.fix=B'.fix)
  (hdsk:∀ D,D∈c.ds→K D=some (.deferred (some []))∧B'.N≤D∧B'.fn=true) (hdsn:c.ds.Nodup):Core B' (E.re K c) m w':=
 {know:=hkn
  laid:=hc.laid.mono hK
  base:=hbase
  nk:=hnk
  mem:=fun n o h=>(mrel_re hK (noYm_get hm h) (hc.mem n o h)).other fun b hb=>hsame n b hb
  cel:=hc.cel
  rw:=hc.rw
  mp:=hc.mp
  inj:=hc.inj
  apart:=hap
  new:=hnew
  lt:=fun n b h=>by
   have h1:=hc.lt n b h
   have h2:=hsame n b h
   rw [Array.getElem?_eq_getElem h1] at h2
   exact (Array.getElem?_eq_some_iff.1 h2).1
  os:=hos
  tape:=htape
  output:=hout
  size:=hsz
  old:=hold
  j:=hj
  y:=hy
  dsk:=hdsk
  dsn:=hdsn }
def roundBase(P:Program)(l:Nat)(K:Know)(w:World)(W:Nat→Prop)(fix:Nat→Value):Base P:=
 {r:=some l,fn:=false,N:=0,W:=W,l:=0,xs:=[],k:=0,fix:=fix,J:=fun _ K0 w0=>K0=K∧w0=w,fnN:=fun h=>(by cases h),yields:=fun _ _ _ _ _ _ _ _ _ _ _ h=>by simp at h }
def roundCst(K:Know)(w:World)(fix:Nat→Value):Cst:={ w0:=w,K0:=K,ds:=[],l:=0,i:=0,xs:=[],k:=0,fix:=fix }
def pinAll:List SV→Nat→List SV
 | [],_=>[]
 | .b x :: r,k=>.pin k x :: pinAll r (k+1)
 | _ :: r,k=>.junk :: pinAll r (k+1)
def unpinAll:List SV→Nat→List SV
 | [],_=>[]
 | .pin j x :: r,k=>(match Nat.beq j k with | true=>.b x | false=>.junk) :: unpinAll r (k+1)
 | _ :: r,k=>.junk :: unpinAll r (k+1)
def setAt:List SV→Nat→SV→List SV
 | [],_,_=>[]
 | _ :: r,0,y=>y :: r
 | x :: r,k+1,y=>x :: setAt r k y
def setParams:List SV→List Nat→List CV→List SV
 | t,p :: ps,x :: xs=>setParams (setAt t p (.b (.v x))) ps xs
 | t,_,_=>t
def startR(s:S)(ps:List Nat)(xs:List CV):S:={ t:=setParams (pinAll s.t 0) ps xs,m:=s.m,g:=[] }
def unpin(s:S):S:={ t:=unpinAll s.t 0,m:=s.m,g:=[] }
theorem pinAll_length:∀ {l:List SV} {k:Nat},(pinAll l k).length=l.length:=by
 intro l
 induction l with
 | nil=>intro k;rfl
 | cons x l ih=>intro k;cases x<;>simp [pinAll,ih]
theorem unpinAll_length:∀ {l:List SV} {k:Nat},(unpinAll l k).length=l.length:=by
 intro l
 induction l with
 | nil=>intro k;rfl
 | cons x l ih=>intro k;cases x<;>simp [unpinAll,ih]
theorem setAt_length:∀ {l:List SV} {k:Nat} {y:SV},(setAt l k y).length=l.length:=by
 intro l
 induction l with
 | nil=>intro k y;rfl
 | cons x l ih=>intro k y;cases k<;>simp [setAt,ih]
theorem setParams_length:∀ {ps:List Nat} {xs:List CV} {t:List SV},(setParams t ps xs).length=t.length:=by
 intro ps
 induction ps with
 | nil=>intro xs t;simp [setParams]
 | cons p ps ih=>intro xs t;cases xs<;>simp [setParams,ih,setAt_length]
theorem pinAll_get:∀ {l:List SV} {i k:Nat} {y:SV},(pinAll l i)[k]?=some y→y=.junk∨∃ x,l[k]?=some (.b x)∧y=.pin (i+k) x:=by
 intro l
 induction l with
 | nil=>intro i k y h;simp [pinAll] at h
 | cons x l ih =>
  intro i k y h
  cases k with
  | zero=>cases x<;>simp [pinAll] at h<;>subst h<;>simp
  | succ k =>
   have h':(pinAll l (i+1))[k]?=some y:=by cases x<;>simpa [pinAll] using h
   rcases ih h' with rfl | ⟨z,hz,rfl⟩
   ·exact .inl rfl
   ·exact .inr ⟨z,by simpa using hz,by congr 1;omega⟩
theorem unpinAll_get:∀ {l:List SV} {i k:Nat} {y:SV},(unpinAll l i)[k]?=some y→y=.junk∨∃ x,l[k]?=some (.pin (i+k) x)∧y=.b x:=by
 intro l
 induction l with
 | nil=>intro i k y h;simp [unpinAll] at h
 | cons x l ih =>
  intro i k y h
  cases k with
  | zero =>
   cases x with
   | pin j z =>
    simp only [unpinAll,List.getElem?_cons_zero,Option.some.injEq] at h
    split at h
    ·rename_i hj
     have:=Nat.eq_of_beq_eq_true hj
     subst this
     exact .inr ⟨z,by simp,h.symm⟩
    ·exact .inl h.symm
   | _=>simp [unpinAll] at h;subst h;exact .inl rfl
  | succ k =>
   have h':(unpinAll l (i+1))[k]?=some y:=by cases x<;>simpa [unpinAll] using h
   rcases ih h' with rfl | ⟨z,hz,rfl⟩
   ·exact .inl rfl
   ·exact .inr ⟨z,by simpa [Nat.add_assoc,Nat.add_comm 1 k] using hz,rfl⟩
theorem setAt_get:∀ {l:List SV} {p k:Nat} {y x:SV},(setAt l p y)[k]?=some x→(k=p∧x=y)∨(k≠p∧l[k]?=some x):=by
 intro l
 induction l with
 | nil=>intro p k y x h;simp [setAt] at h
 | cons z l ih =>
  intro p k y x h
  cases p with
  | zero=>cases k with
   | zero=>simp [setAt] at h;exact .inl ⟨rfl,h.symm⟩
   | succ k=>exact .inr ⟨by simp,by simpa [setAt] using h⟩
  | succ p=>cases k with
   | zero=>exact .inr ⟨by simp,by simpa [setAt] using h⟩
   | succ k =>
    rcases ih (by simpa [setAt] using h) with ⟨h1,h2⟩ | ⟨h1,h2⟩
    ·exact .inl ⟨by omega,h2⟩
    ·exact .inr ⟨by omega,by simpa using h2⟩
theorem params_rel:∀ {ps:List Nat} {xs:List CV} {us:List Value} {t:List SV} {tmps:Array Value},us.length=xs.length→(∀ j,j<xs.length→RelCV E (xs.getD j (.c .junk)) (us.getD j undef))→tmps.size=t.length →
  (∀ k x,t[k]?=some x→RelSV E [] x (tmps.getD k undef))→∀ k x,(setParams t ps xs)[k]?=some x→RelSV E [] x (((ps.zip us).foldl (fun t (p,v)=>t.setIfInBounds p v) tmps).getD k undef):=by
 intro ps
 induction ps with
 | nil=>intro xs us t tmps _ _ _ h k x hk;exact h k x (by simpa [setParams] using hk)
 | cons p ps ih =>
  intro xs us t tmps hl hx hsz h k x hk
  cases xs with
  | nil =>
   have:us=[]:=List.eq_nil_of_length_eq_zero (by simpa using hl)
   subst this
   exact h k x (by simpa [setParams] using hk)
  | cons y xs =>
   cases us with
   | nil=>simp at hl
   | cons u us =>
    simp only [setParams] at hk
    simp only [List.zip_cons_cons,List.foldl_cons]
    refine ih (xs:=xs) (us:=us) (by simpa using hl) (fun j hj=>by simpa [gE] using hx (j+1) (by simpa using hj)) (by rw [setAt_length];simpa using hsz) (fun k x hk=>?_) k x hk
    have hlt:k<tmps.size:=by
     have:=(List.getElem?_eq_some_iff.1 hk).1
     rw [setAt_length] at this
     omega
    rcases setAt_get hk with ⟨rfl,rfl⟩ | ⟨hne,hk'⟩
    ·have:(tmps.setIfInBounds k u).getD k undef=u:=by simp [Array.getD_eq_getD_getElem?,hlt]
     rw [this]
     exact hx 0 (by simp)
    ·have:(tmps.setIfInBounds p u).getD k undef=tmps.getD k undef:=by simp [Array.getD_eq_getD_getElem?,Array.getElem?_setIfInBounds_ne (Ne.symm hne)]
     rw [this]
     exact h k x hk'
theorem foldl_size:∀ (l:List (Nat×Value)) (tmps:Array Value),(l.foldl (fun t (p,v)=>t.setIfInBounds p v) tmps).size=tmps.size:=by
 intro l
 induction l with
 | nil=>intro t;rfl
 | cons x l ih=>intro t;simp [ih]
def Mid(B:Base P)(E0:Env)(a:Act)(D l:Nat)(rec:Obj)(s:S)(K:Know)(W:World):Prop:=
 ∃ E1,E1.K=K∧E1.c=E0.c∧Sim B E1 s a W∧W.heap[l]?=some rec∧W.heap[D]?=some (.deferred (some []))∧K l=none∧K D=none∧(∀ n,¬ E1.holds n l)∧(∀ n,¬ E1.holds n D)
def S.fits(s:S)(n:Nat):Bool:=s.noY&&Nat.beq s.t.length n
def roundR(P:Program)(Q:Exit→S→Prop)(I:Nat→S)(i k:Nat):Exit→S→Prop
 | .normal,s=>i<k∧∃ s',Wk P s s'∧s'.fits (I i).t.length=true∧Wk P (unpin s') (I (i+1))
 | .ret,s=>i=k∧∃ s',Wk P s s'∧s'.fits (I i).t.length=true∧Q .ret (unpin s')
 | .exit id,s=>i=k∧∃ s',Wk P s s'∧s'.fits (I i).t.length=true∧Q (.exit id) (unpin s')
 | _,_=>False
theorem round_start{s:S}{ps:List Nat}{xs:List CV}{a:Act}{l:Nat}{K':Know}{w':World}{us:List Value}(hs:Sim B E s a w)(hn:s.noY=true)(hsi:Since E.K w K' w')(hl:us.length=xs.length)(hx:∀ j,j<xs.length→RelCVK K' (xs.getD j (.c .junk)) (us.getD j undef)):
  Sim (roundBase P l K' w' (fun b=>∃ n,E.holds n b) (fun j=>a.tmps.getD j undef)) (E.re K' (roundCst K' w' (fun j=>a.tmps.getD j undef))) (startR s ps xs) { tmps:=(ps.zip us).foldl (fun t (p,v)=>t.setIfInBounds p v) a.tmps,defers:=[] } w':=by
 have hc:=hs.core
 simp only [S.noY,Bool.and_eq_true] at hn
 refine ⟨?_,?_,rfl,?_⟩
 ·exact hc.re hn.2 hsi.le hsi.know (Know.le_refl _) (fun _ _ h=>h) (fun n b h=>hsi.old b (hc.lt n b h)) (fun n b h=>hsi.nk b (hc.lt n b h) (hc.apart n b h)) (fun n b h=>.inr ⟨n,h⟩) rfl rfl rfl (Nat.le_refl _) (fun _ _ _=>rfl) ⟨rfl,rfl⟩ ⟨rfl,rfl,rfl,rfl⟩ (fun D hD=>by simp [roundCst] at hD) List.nodup_nil
 ·simp only [startR,setParams_length,pinAll_length,foldl_size]
  exact hs.size
 ·refine params_rel hl (fun j hj=>RelCVK.rel (E:=E.re K' _) (hx j hj)) (by rw [pinAll_length];exact hs.size) (fun k x hk=>?_)
  rcases pinAll_get hk with rfl | ⟨y,hy,rfl⟩
  ·trivial
  ·have:=hs.slot k _ hy
   refine ⟨relSB_re hsi.le ?_ this,?_⟩
   ·exact noYt_get (x:=.b y) hn.1 hy
   ·show _=a.tmps.getD (0+k) undef
    rw [Nat.zero_add]
theorem round_body{s1:S}{a1:Act}{w1:World}{l:Nat}{K':Know}{w':World}{W:Nat→Prop}{fix:Nat→Value}{o:Obj}(hs:Sim (roundBase P l K' w' W fix) E s1 a1 w1)(hn:s1.noY=true)(hl:E.K l=none)(hnl:∀ n,¬ E.holds n l):
  Sim (roundBase P l E.K (w1.putObj l o) (fun b=>∃ n,E.holds n b) fix) (E.re E.K (roundCst E.K (w1.putObj l o) fix)) s1 a1 (w1.putObj l o):=by
 have hc:=hs.core
 simp only [S.noY,Bool.and_eq_true] at hn
 refine ⟨?_,hs.size,?_,fun k x hk=>?_⟩
 ·refine hc.re hn.2 (Know.le_refl _) (fun b x hb=>?_) (Know.le_refl _) (fun _ _ h=>h) (fun n b h=>?_) hc.apart (fun n b h=>.inr ⟨n,h⟩) rfl rfl rfl (Nat.le_refl _) (fun _ _ _=>rfl) ⟨rfl,rfl⟩ ⟨rfl,rfl,rfl,rfl⟩ (fun D hD=>by simp [roundCst] at hD) List.nodup_nil
  ·rw [World.putObj_heap_other (fun e=>by rw [e,hl] at hb;cases hb)]
   exact hc.know b x hb
  ·exact World.putObj_heap_other (fun e=>hnl n (e▸h))
 ·rw [hs.defers]
  cases hd:E.c.ds with
  | nil=>rfl
  | cons D ds=>have:=(hc.dsk D (by rw [hd];simp)).2.2;cases this
 ·have h:=hs.slot k x hk
  exact relSV_re (Know.le_refl _) hc.y.2.2.2.symm (noYt_get hn.1 hk) h
theorem round_back{E0 E1 Ea Eb:Env}{s s':S}{m1:List (Option MO)}{a a2:Act}{W W' w1 w2:World}{K':Know}{D l:Nat}{o oB:Obj}(hcE:E1.c=E0.c)(hs:Sim B E1 s a W)(hsi:Since E1.K W K' W') 
  (hB1:Core (roundBase P l K' W' (fun b=>∃ n,E1.holds n b) (fun j=>a.tmps.getD j undef)) Ea m1 w1) (hB2:Sim (roundBase P l Ea.K (w1.putObj l oB) (fun b=>∃ n,Ea.holds n b) (fun j=>a.tmps.getD j undef)) Eb s' a2 w2)
  (hn:s'.fits s.t.length=true) (hl0:E0.c.w0.heap.size≤l) (hlW:l<W.heap.size) (hDW:D<W.heap.size) (hDl:D≠l) (hD:W.heap[D]?=some (.deferred (some []))) (hKl:E1.K l=none) (hKD:E1.K D=none) (hnl:∀ n,¬ E1.holds n l) (hnD:∀ n,¬ E1.holds n D) :
  Mid B E0 a D l o (unpin s') Eb.K (w2.putObj l o)∧K'.le Eb.K∧(∀ b,b<W'.heap.size→K' b=none→Eb.K b=none)∧Knows Eb.K (w2.putObj l o)∧w2.heap[l]?=(w1.putObj l oB).heap[l]?:=by
 have hc:=hs.core
 have hc2:=hB2.core
 simp only [S.fits,S.noY,Bool.and_eq_true] at hn
 obtain ⟨⟨hn1,hn2⟩,hn3⟩:=hn
 have hlen:s'.t.length=s.t.length:=Nat.eq_of_beq_eq_true hn3
 obtain ⟨hj1,hj1'⟩:Ea.c.K0=K'∧Ea.c.w0=W':=hB1.j
 obtain ⟨hj2,hj2'⟩:Eb.c.K0=Ea.K∧Eb.c.w0=w1.putObj l oB:=hc2.j
 have sz1:W.heap.size≤W'.heap.size:=hsi.size
 have sz2:W'.heap.size≤w1.heap.size:=by have:=hB1.size;rw [hj1'] at this;exact this
 have sz3:w1.heap.size≤w2.heap.size:=by have:=hc2.size;rw [hj2',World.putObj_size] at this;exact this
 have le1:K'.le Ea.K:=by have:=hB1.base;rw [hj1] at this;exact this
 have le2:Ea.K.le Eb.K:=by have:=hc2.base;rw [hj2] at this;exact this
 have nk1:∀ b,b<W'.heap.size→K' b=none→Ea.K b=none:=fun b hb h=>hB1.nk b (by rw [hj1'];exact hb) (by rw [hj1];exact h)
 have nk2:∀ b,b<w1.heap.size→Ea.K b=none→Eb.K b=none:=fun b hb h=>hc2.nk b (by rw [hj2',World.putObj_size];exact hb) (by rw [hj2];exact h)
 have new1:∀ n b,Ea.holds n b→W'.heap.size≤b∨∃ n,E1.holds n b:=fun n b h=>by have:=hB1.new n b h;rw [hj1'] at this;exact this
 have new2:∀ n b,Eb.holds n b→w1.heap.size≤b∨∃ n,Ea.holds n b:=fun n b h=>by have:=hc2.new n b h;rw [hj2',World.putObj_size] at this;exact this
 have old1:∀ b,b<W'.heap.size→(¬ ∃ n,E1.holds n b)→w1.heap[b]?=W'.heap[b]?:=fun b hb h=>by have:=hB1.old b (by rw [hj1'];exact hb) h;rw [hj1'] at this;exact this
 have old2:∀ b,b<w1.heap.size→(¬ ∃ n,Ea.holds n b)→w2.heap[b]?=(w1.putObj l oB).heap[b]?:=fun b hb h=>by have:=hc2.old b (by rw [hj2',World.putObj_size];exact hb) h;rw [hj2'] at this;exact this
 have nhold:∀ b,b<W.heap.size→(∀ n,¬ E1.holds n b)→∀ n,¬ Eb.holds n b:=fun b hb h n h2=>by
  rcases new2 n b h2 with h3 | ⟨n',h3⟩
  ·omega
  ·rcases new1 n' b h3 with h4 | ⟨n'',h4⟩
   ·omega
   ·exact h n'' h4
 have nholda:∀ b,b<W.heap.size→(∀ n,¬ E1.holds n b)→¬ ∃ n,Ea.holds n b:=fun b hb h ⟨n',h3⟩=>by
  rcases new1 n' b h3 with h4 | ⟨n'',h4⟩
  ·omega
  ·exact h n'' h4
 have kl:Eb.K l=none:=nk2 l (by omega) (nk1 l (by omega) (hsi.nk l hlW hKl))
 have kD:Eb.K D=none:=nk2 D (by omega) (nk1 D (by omega) (hsi.nk D hDW hKD))
 have hkn:Knows Eb.K (w2.putObj l o):=fun b x hb=>by
  rw [World.putObj_heap_other (fun e=>by rw [e,kl] at hb;cases hb)]
  exact hc2.know b x hb
 have hl2:w2.heap[l]?=(w1.putObj l oB).heap[l]?:=old2 l (by omega) (nholda l hlW hnl)
 have keep:∀ b,b<W.heap.size→(∀ n,¬ E1.holds n b)→b≠l→(w2.putObj l o).heap[b]?=W.heap[b]?:=fun b hb h hbl=>by
  rw [World.putObj_heap_other hbl,old2 b (by omega) (nholda b hb h),World.putObj_heap_other hbl,old1 b (by omega) (fun ⟨n,hn⟩=>h n hn)]
  exact hsi.old b hb
 have w0sz:E0.c.w0.heap.size≤W.heap.size:=by have:=hc.size;rw [hcE] at this;exact this
 refine ⟨⟨Eb.re Eb.K E0.c,rfl,rfl,⟨?_,?_,?_,fun k x hk=>?_⟩,?_,?_,kl,kD,fun n h=>nhold l hlW hnl n h,fun n h=>nhold D hDW hnD n h⟩,Know.le_trans le1 le2,fun b hb h=>nk2 b (by omega) (nk1 b hb h),hkn,hl2⟩
 ·refine hc2.re hn2 (Know.le_refl _) hkn ?_ (fun b hb h=>?_) (fun n b h=>?_) hc2.apart (fun n b h=>?_) ?_ ?_ ?_ ?_ (fun b hb hbW=>?_) ?_ ?_ (fun D' hD'=>?_) ?_
  ·have:=hc.base
   rw [hcE] at this
   exact Know.le_trans this (Know.le_trans hsi.le (Know.le_trans le1 le2))
  ·have h1:=hc.nk b (by rw [hcE];exact hb) (by rw [hcE];exact h)
   exact nk2 b (by omega) (nk1 b (by omega) (hsi.nk b (by omega) h1))
  ·exact World.putObj_heap_other (fun e=>nhold l hlW hnl n (e▸h))
  ·rcases new2 n b h with h3 | ⟨n',h3⟩
   ·left;omega
   ·rcases new1 n' b h3 with h4 | ⟨n'',h4⟩
    ·left;omega
    ·have:=hc.new n'' b h4
     rw [hcE] at this
     exact this
  ·have:=hc2.os;rw [hj2'] at this
   have h1:=hB1.os;rw [hj1'] at h1
   have h0:=hc.os;rw [hcE] at h0
   exact this.trans (h1.trans (hsi.os.trans h0))
  ·have:=hc2.tape;rw [hj2'] at this
   have h1:=hB1.tape;rw [hj1'] at h1
   have h0:=hc.tape;rw [hcE] at h0
   exact this.trans (h1.trans (hsi.tape.trans h0))
  ·have:=hc2.output;rw [hj2'] at this
   have h1:=hB1.output;rw [hj1'] at h1
   have h0:=hc.output;rw [hcE] at h0
   exact this.trans (h1.trans (hsi.output.trans h0))
  ·rw [World.putObj_size];omega
  ·have h0:=hc.old b (by rw [hcE];exact hb) hbW
   rw [hcE] at h0
   rw [← h0]
   refine keep b (by omega) (fun n h=>?_) (by omega)
   have:=hc.new n b h
   rw [hcE] at this
   rcases this with h1 | h1
   ·omega
   ·exact hbW h1
  ·have:=hc.j;rw [hcE] at this;exact this
  ·have:=hc.y;rw [hcE] at this;exact this
  ·have:=hc.dsk D' (by rw [hcE];exact hD')
   exact ⟨Know.le_trans hsi.le (Know.le_trans le1 le2) _ _ this.1,this.2⟩
  ·have:=hc.dsn;rw [hcE] at this;exact this
 ·show a.tmps.size=(unpinAll s'.t 0).length
  rw [unpinAll_length,hlen]
  exact hs.size
 ·have:=hs.defers;rw [hcE] at this;exact this
 ·rcases unpinAll_get hk with rfl | ⟨y,hy,rfl⟩
  ·trivial
  ·have h:=hB2.slot k _ hy
   have hf:Eb.c.fix=fun j=>a.tmps.getD j undef:=hc2.y.2.2.2
   have h2:=h.2
   rw [hf] at h2
   simp only [Nat.zero_add] at h2
   have h3:RelSB (Eb.re Eb.K E0.c) y (a2.tmps.getD k undef):=relSB_re (Know.le_refl _) (noYt_get (x:=.pin (0+k) y) hn1 hy) h.1
   rw [h2] at h3
   exact h3
 ·exact World.putObj_heap_same (by omega)
 ·rw [keep D hDW hnD hDl];exact hD
end Go.Sym
namespace Go.Sym
open Go.RowKit
variable {P:Program} {B:Base P} {E:Env} {w:World}
def Left(Q:Exit→S→Prop)(c:Code)(s:S):Prop:=s.noY=true∧((c=.ret∧Q .ret s)∨∃ id,c=.exit id∧Q (.exit id) s)
theorem unpin_noYt:∀ {l:List SV} {k:Nat},noYt l=true→noYt (unpinAll l k)=true:=by
 intro l
 induction l with
 | nil=>intro k _;rfl
 | cons x l ih =>
  intro k h
  simp only [noYt,Bool.and_eq_true] at h
  cases x with
  | pin j x =>
   simp only [unpinAll,noYt,Bool.and_eq_true]
   refine ⟨?_,ih h.2⟩
   split
   ·exact h.1
   ·rfl
  | _=>simp only [unpinAll,noYt,Bool.and_eq_true];exact ⟨rfl,ih h.2⟩
theorem unpin_noY{s:S}{n:Nat}(h:s.fits n=true):(unpin s).noY=true:=by
 simp only [S.fits,S.noY,Bool.and_eq_true] at h
 simp only [S.noY,unpin,Bool.and_eq_true]
 exact ⟨unpin_noYt h.1.1,h.1.2⟩
def loopRec(fn:FuncId)(tmps:Array Value)(ps:Array Tmp)(assign body:Code)(D:Nat)(st:LoopState)(pe:Option Code):Loop:={ state:=st,pending:=pe,fn:=fn,tmps:=tmps,params:=ps,assign:=assign,body:=body,defers:=D }
def RangeJ(B:Base P)(E0:Env)(a:Act)(D l:Nat)(rec:LoopState→Option Code→Loop)(Q:Exit→S→Prop)(I:Nat→S)(k n:Nat)(i:Nat)(K:Know)(W:World):Prop:=
 (i≤k∧Mid B E0 a D l (.loop (rec .ready none)) (I i) K W)∨(i=k+1∧k<n∧∃ c sx,Left Q c sx∧Mid B E0 a D l (.loop (rec .done (some c))) sx K W)
theorem Core.held{m:List (Option MO)}{n b:Nat}(hc:Core B E m w)(h:E.holds n b):∃ o,w.heap[b]?=some o∧walks o=false:=by
 rcases h with h | h | ⟨hd,len,h,h2⟩
 ·obtain ⟨o1,h1,h3⟩:=hc.cel n b h
  cases o1 with
  | cells cs =>
   obtain ⟨b',arr,T,g1,g2,_⟩:=hc.mem n _ h1
   rw [h] at g1;cases g1
   exact ⟨_,g2,rfl⟩
  | pcells cs =>
   obtain ⟨b',arr,T,g1,g2,_⟩:=hc.mem n _ h1
   rw [h] at g1;cases g1
   exact ⟨_,g2,rfl⟩
  | tcells T cs =>
   obtain ⟨b',arr,g1,g2,_⟩:=hc.mem n _ h1
   rw [h] at g1;cases g1
   exact ⟨_,g2,rfl⟩
  | _=>cases h3
 ·obtain ⟨kagg,agg,ents,h1⟩:=hc.mp n b h
  obtain ⟨b',es,g1,g2,_⟩:=hc.mem n _ h1
  rw [h] at g1;cases g1
  exact ⟨_,g2,rfl⟩
 ·obtain ⟨o,h1,h3⟩:=hc.rw n _ h
  cases o with
  | row e sz css =>
   obtain ⟨_,_,hd',xs,g1,g2,_⟩:=hc.mem n _ h1
   rw [h] at g1;cases g1
   rcases g2.2 with ⟨rfl,_⟩ | ⟨g,cap,cur,rfl,_,g3,_⟩
   ·cases h2
   ·cases h2;exact ⟨_,g3,rfl⟩
  | bag e sz css =>
   obtain ⟨css',_,_,_,hd',xs,g1,g2,_⟩:=hc.mem n _ h1
   rw [h] at g1;cases g1
   rcases g2.2 with ⟨rfl,_⟩ | ⟨g,cap,cur,rfl,_,g3,_⟩
   ·cases h2
   ·cases h2;exact ⟨_,g3,rfl⟩
  | gone =>
   obtain ⟨hd',len',g1,g2⟩:=hc.mem n _ h1
   rw [h] at g1;cases g1
   rw [h2] at g2;cases g2
  | _=>cases h3
theorem zip_fold(ps:Array Tmp)(vs:Array Value)(tmps:Array Value):(ps.zip vs).foldl (fun t (p,v)=>t.setIfInBounds p v) tmps=(ps.toList.zip vs.toList).foldl (fun t (p,v)=>t.setIfInBounds p v) tmps:=by
 rw [← Array.foldl_toList,Array.toList_zip]
theorem range_yields{E0:Env}{a:Act}{D l:Nat}{fn:FuncId}{ps:Array Tmp}{assign body:Code}{Q:Exit→S→Prop}{I:Nat→S}{xs:List (List CV)}{k:Nat}(hDl:D≠l)(hl0:E0.c.w0.heap.size≤l) 
  (hps:∀ i,i<xs.length→(xs.getD i []).length=ps.size) (hY:∀ i,i≤k→(I i).noY=true)
  (round:∀ i,i<xs.length→i≤k→∀ B1:Base P,Run P B1 (startR (I i) ps.toList (xs.getD i [])) [assign] (fun e s1=>e=.normal∧s1.noY=true∧∀ B2:Base P,Run P B2 s1 [body] (roundR P Q I i k))) :
  YieldsTo P l xs k (RangeJ B E0 a D l (loopRec fn a.tmps ps assign body D) Q I k xs.length):=by
 intro i K W K' W' vs hJ hsi hi hik hvs hx
 rcases hJ with ⟨_,E1,rfl,hcE,hs,hl,hD,hKl,hKD,hnl,hnD⟩ | ⟨h,_⟩
 case inr=>omega
 have hlW:l<W.heap.size:=(Array.getElem?_eq_some_iff.1 hl).1
 have hDW:D<W.heap.size:=(Array.getElem?_eq_some_iff.1 hD).1
 have hl':=(hsi.old l hlW).trans hl
 refine ⟨fn,_,assign,body,run_yield hl' (by rw [hvs,hps i hi];rfl),?_⟩
 have e0:(((loopRec fn a.tmps ps assign body D .ready none).params.zip vs).foldl (fun tmps (t,a)=>tmps.setIfInBounds t a) (loopRec fn a.tmps ps assign body D .ready none).tmps)=(ps.toList.zip vs.toList).foldl (fun t (p,v)=>t.setIfInBounds p v) a.tmps:=zip_fold ps vs a.tmps
 rw [e0]
 refine roundIn_of_wpIn trivial ?_
 have hst:=round_start (l:=l) (ps:=ps.toList) (us:=vs.toList) hs (hY i hik) hsi (by simpa using hvs) (fun j hj=>by simpa [gE] using hx j hj)
 refine wpIn_mono (run_tri (round i hi hik _) _ _ _ hst) ?_
 rintro e a1 w1 ⟨Ea,s1,⟨rfl,hn1,hb2⟩,hs1⟩
 have hca:=hs1.core
 obtain ⟨hj1,hj1'⟩:Ea.c.K0=K'∧Ea.c.w0=W':=hca.j
 have sz1:W.heap.size≤W'.heap.size:=hsi.size
 have notheld:∀ n,¬ Ea.holds n l:=fun n h=>by
  have:=hca.new n l h
  rw [hj1'] at this
  rcases this with h1 | ⟨n',h1⟩
  ·omega
  ·exact hnl n' h1
 have hl1:w1.heap[l]?=some (.loop (loopRec fn a.tmps ps assign body D .ready none)):=by
  have:=hca.old l (by rw [hj1'];omega) (fun ⟨n',h1⟩=>hnl n' h1)
  rw [hj1'] at this
  exact this.trans hl'
 have kl1:Ea.K l=none:=hca.nk l (by rw [hj1'];omega) (by rw [hj1];exact hsi.nk l hlW hKl)
 refine ⟨_,run_beginRound hl1 rfl,?_⟩
 refine wpIn_mono (run_tri (hb2 _) _ _ _ (round_body (o:=.loop { loopRec fn a.tmps ps assign body D .ready none with state:=.busy }) hs1 hn1 kl1 notheld)) ?_
 rintro e a2 w2 ⟨Eb,s2,hq2,hs2⟩
 have back:∀ (s':S) (o:Obj),Wk P s2 s'→s'.fits (I i).t.length=true→∃ K'',K'.le K''∧(∀ b,b<W'.heap.size→K' b=none→K'' b=none)∧Knows K'' (w2.putObj l o)∧Mid B E0 a D l o (unpin s') K'' (w2.putObj l o)∧w2.heap[l]?=some (.loop { loopRec fn a.tmps ps assign body D .ready none with state:=.busy }) ∧
   (∀ (b:Nat) (o':Obj),W'.heap[b]?=some o'→walks o'=true→(w2.putObj l o).heap[b]?=some o'):=by
  intro s' o hw hf
  obtain ⟨Eb',hs3,_⟩:=hw _ _ _ _ hs2
  obtain ⟨h1,h2,h3,h4,h5⟩:=round_back (o:=o) hcE hs hsi hca hs3 hf hl0 hlW hDW hDl hD hKl hKD hnl hnD
  have hsz:W'.heap.size≤w1.heap.size:=by have:=hca.size;rw [hj1'] at this;exact this
  refine ⟨Eb'.K,h2,h3,h4,h1,?_,fun b o' hb hwk=>?_⟩
  ·rw [h5]
   exact World.putObj_heap_same (by omega)
  ·have hbW:b<W'.heap.size:=(Array.getElem?_eq_some_iff.1 hb).1
   have hne1:∀ n,¬ E1.holds n b:=fun n h=>by
    obtain ⟨o2,g1,g2⟩:=hs.core.held h
    have g3:=hsi.old b (hs.core.lt n b h)
    rw [hb,g1] at g3
    cases g3
    rw [g2] at hwk;cases hwk
   have hbl:b≠l:=fun e=>by
    rw [e,hl'] at hb
    cases hb
    cases hwk
   have hnea:¬ ∃ n,Ea.holds n b:=fun ⟨n,h⟩=>by
    have:=hca.new n b h
    rw [hj1'] at this
    rcases this with h1 | ⟨n',h1⟩
    ·omega
    ·exact hne1 n' h1
   have k1:w1.heap[b]?=some o':=by
    have:=hca.old b (by rw [hj1'];omega) (fun ⟨n',h1⟩=>hne1 n' h1)
    rw [hj1'] at this
    exact this.trans hb
   obtain ⟨hj2,hj2'⟩:Eb'.c.K0=Ea.K∧Eb'.c.w0=w1.putObj l (.loop { loopRec fn a.tmps ps assign body D .ready none with state:=.busy }):=hs3.core.j
   have k2:=hs3.core.old b (by rw [hj2',World.putObj_size];omega) hnea
   rw [hj2',World.putObj_heap_other hbl] at k2
   rw [World.putObj_heap_other hbl]
   exact k2.trans k1
 cases e with
 | normal =>
  obtain ⟨hlt,s',hw,hf,hI⟩:=hq2
  obtain ⟨K'',h1,h2,h3,h4,h5,h6⟩:=back s' (.loop (loopRec fn a.tmps ps assign body D .ready none)) hw hf
  refine ⟨_,_,run_endRound none h5,?_,h6,K'',h1,h2,h3,.inl ⟨by omega,?_⟩⟩
  ·simp [hlt]
  ·obtain ⟨E3,g1,g2,g3,g4,g5,g6,g7,g8,g9⟩:=h4
   obtain ⟨E4,f1,f2,f3,f4⟩:=hI _ _ _ _ g3
   exact ⟨E4,f2.trans g1,f3.trans g2,f1,g4,g5,g6,g7,fun n h=>g8 n (f4 n l h),fun n h=>g9 n (f4 n D h)⟩
 | ret =>
  obtain ⟨rfl,s',hw,hf,hI⟩:=hq2
  obtain ⟨K'',h1,h2,h3,h4,h5,h6⟩:=back s' (.loop (loopRec fn a.tmps ps assign body D .done (some .ret))) hw hf
  refine ⟨_,_,run_endRound (some .ret) h5,?_,h6,K'',h1,h2,h3,.inr ⟨rfl,hi,.ret,_,⟨unpin_noY hf,.inl ⟨rfl,hI⟩⟩,h4⟩⟩
  simp
 | exit id =>
  obtain ⟨rfl,s',hw,hf,hI⟩:=hq2
  obtain ⟨K'',h1,h2,h3,h4,h5,h6⟩:=back s' (.loop (loopRec fn a.tmps ps assign body D .done (some (.exit id)))) hw hf
  refine ⟨_,_,run_endRound (some (.exit id)) h5,?_,h6,K'',h1,h2,h3,.inr ⟨rfl,hi,.exit id,_,⟨unpin_noY hf,.inr ⟨id,rfl,hI⟩⟩,h4⟩⟩
  simp
 | goto t=>exact hq2.elim
 | panic ch=>exact hq2.elim
 | outgrown=>exact hq2.elim
theorem range_end{E0:Env}{a:Act}{D l:Nat}{rec:Obj}{o:Obj}{s:S}{K1 K':Know}{w1 w':World}(hm:Mid B E0 a D l rec s K1 w1)(hsi:Since K1 w1 K' w')(hn:s.noY=true)(hDl:D≠l)(hl0:E0.c.w0.heap.size≤l)(hD0:E0.c.w0.heap.size≤D)(hN:B.N≤D)(hfn:B.fn=true):
  ∃ E',Sim B E' s { a with defers:=markOf D :: a.defers } (w'.putObj l o):=by
 obtain ⟨E1,rfl,hcE,hs,hl,hD,hKl,hKD,hnl,hnD⟩:=hm
 have hc:=hs.core
 simp only [S.noY,Bool.and_eq_true] at hn
 have hlW:l<w1.heap.size:=(Array.getElem?_eq_some_iff.1 hl).1
 have hDW:D<w1.heap.size:=(Array.getElem?_eq_some_iff.1 hD).1
 have kl:K' l=none:=hsi.nk l hlW hKl
 have kD:K' D=none:=hsi.nk D hDW hKD
 have hw0:E0.c.w0.heap.size≤w1.heap.size:=by have:=hc.size;rw [hcE] at this;exact this
 have keep:∀ b,b<w1.heap.size→b≠l→(w'.putObj l o).heap[b]?=w1.heap[b]?:=fun b hb hbl=>by rw [World.putObj_heap_other hbl];exact hsi.old b hb
 refine ⟨E1.re (fun b=>if b=D then some (.deferred (some [])) else K' b) { E0.c with ds:=D :: E0.c.ds },?_,hs.size,?_,fun k x hk=>?_⟩
 ·refine hc.re hn.2 (fun b x hb=>?_) (fun b x hb=>?_) (fun b x hb=>?_) (fun b hb h=>?_) (fun n b h=>?_) (fun n b h=>?_) (fun n b h=>?_) ?_ ?_ ?_ ?_ (fun b hb hbW=>?_) ?_ ?_ (fun D' hD'=>?_) ?_
  ·have:b≠D:=fun e=>by rw [e,hKD] at hb;cases hb
   simp only [if_neg this]
   exact hsi.le b x hb
  ·by_cases hbD:b=D
   ·subst hbD
    simp only [if_pos] at hb
    cases hb
    rw [keep b hDW hDl];exact hD
   ·simp only [if_neg hbD] at hb
    rw [World.putObj_heap_other (fun e=>by rw [e,kl] at hb;cases hb)]
    exact hsi.know b x hb
  ·have h1:=hc.base
   rw [hcE] at h1
   have h2:=h1 b x hb
   have:b≠D:=fun e=>by rw [e,hKD] at h2;cases h2
   simp only [if_neg this]
   exact hsi.le b x h2
  ·have h1:=hc.nk b (by rw [hcE];exact hb) (by rw [hcE];exact h)
   have hbD:b≠D:=fun e=>by
    subst e
    exact absurd hb (by show ¬ b<E0.c.w0.heap.size;omega)
   simp only [if_neg hbD]
   exact hsi.nk b (by have:b<E0.c.w0.heap.size:=hb;omega) h1
  ·exact keep b (hc.lt n b h) (fun e=>hnl n (e▸h))
  ·have hbD:b≠D:=fun e=>hnD n (e▸h)
   simp only [if_neg hbD]
   exact hsi.nk b (hc.lt n b h) (hc.apart n b h)
  ·have:=hc.new n b h
   rw [hcE] at this
   exact this
  ·have h0:=hc.os;rw [hcE] at h0;exact hsi.os.trans h0
  ·have h0:=hc.tape;rw [hcE] at h0;exact hsi.tape.trans h0
  ·have h0:=hc.output;rw [hcE] at h0;exact hsi.output.trans h0
  ·rw [World.putObj_size];exact Nat.le_trans hw0 hsi.size
  ·have h0:=hc.old b (by rw [hcE];exact hb) hbW
   rw [hcE] at h0
   have hb':b<E0.c.w0.heap.size:=hb
   exact (keep b (by omega) (by omega)).trans h0
  ·have:=hc.j;rw [hcE] at this;exact this
  ·have:=hc.y;rw [hcE] at this;exact this
  ·rcases List.mem_cons.1 hD' with rfl | hD'
   ·exact ⟨by simp,hN,hfn⟩
   ·have:=hc.dsk D' (by rw [hcE];exact hD')
    have hne:D'≠D:=fun e=>by rw [e,hKD] at this;cases this.1
    simp only [if_neg hne]
    exact ⟨hsi.le _ _ this.1,this.2⟩
  ·refine List.nodup_cons.2 ⟨fun hm=>?_,by have:=hc.dsn;rw [hcE] at this;exact this⟩
   have:=hc.dsk D (by rw [hcE];exact hm)
   rw [hKD] at this
   cases this.1
 ·have:=hs.defers
  rw [hcE] at this
  show markOf D :: a.defers=_
  rw [this];rfl
 ·refine relSV_re (fun b x hb=>?_) (by rw [hcE]) (noYt_get hn.1 hk) (hs.slot k x hk)
  have:b≠D:=fun e=>by rw [e,hKD] at hb;cases hb
  simp only [if_neg this]
  exact hsi.le b x hb
theorem run_rangeFunc{s:S}{g:Operand}{ps:Array Tmp}{assign body:Code}{cs:List Code}{Q:Exit→S→Prop}{f:FuncId}{caps:List C}{xs:List (List CV)}(hB:B.r=none)(hBf:B.fn=true)(hg:s.ev [] g=some (.v (.c (.clo f caps))))(hit:FIter P f caps xs) 
  (hps:∀ i,i<xs.length→(xs.getD i []).length=ps.size) (k:Nat) (hk:k≤xs.length) (I:Nat→S) (hI:Wk P s (I 0)) (hY:∀ i,i≤k→(I i).noY=true)
  (round:∀ i,i<xs.length→i≤k→∀ B1:Base P,Run P B1 (startR (I i) ps.toList (xs.getD i [])) [assign] (fun e s1=>e=.normal∧s1.noY=true∧∀ B2:Base P,Run P B2 s1 [body] (roundR P (thenQ (fun s'=>Run P B s' cs Q) Q) I i k)))
  (after:k=xs.length→Run P B (I k) cs Q):Run P B s (.rangeFunc g ps assign body :: cs) Q:=by
 intro E a w hs
 have hv:RelSB E (.v (.c (.clo f caps))) (a.eval g):=ev_rel (p:=[]) hs rfl hg
 have hkv:RelK E.K (.clo f caps) (a.eval g):=relSB_c hv
 obtain ⟨cvs,hcv,hcs,hcr,hco⟩:∃ cvs,a.eval g=.func (.func f) #[] cvs∧cvs.size=caps.length∧(∀ j,j<caps.length→RelK E.K (caps.getD j .junk) (cvs.getD j undef))∧(∀ j,j<caps.length→(cvs.getD j undef).oneCell'=true):=by
  generalize a.eval g=u at hkv
  cases hkv
  rename_i vs h1 h2 h3
  exact ⟨vs,rfl,h1,h2,h3⟩
 obtain ⟨fnc,hfn,hbody,hname⟩:=hit.known
 obtain ⟨E0,hs0,hK0,hc0,hh0⟩:=hI _ _ _ _ hs
 have hc:=hs.core
 have hcz:=hs0.core
 refine wpIn_rangeFunc ?_
 intro fn _
 have hro:(FB B.r).round=none:=hB
 rw [hro]
 obtain ⟨W1,hW1⟩:∃ W1,(w.alloc (.deferred (some []))).alloc (.loop (loopRec fn a.tmps ps assign body w.heap.size .ready none))=W1:=⟨_,rfl⟩
 have hL1:W1.heap[w.heap.size+1]?=some (.loop (loopRec fn a.tmps ps assign body w.heap.size .ready none)):=by
  rw [← hW1]
  have:=World.alloc_heap_new (w.alloc (.deferred (some []))) (.loop (loopRec fn a.tmps ps assign body w.heap.size .ready none))
  rwa [World.size_alloc] at this
 have hD1:W1.heap[w.heap.size]?=some (.deferred (some [])):=by
  rw [← hW1];exact (Below.heap_alloc _ _ _ (by simp)).trans (World.alloc_heap_new w _)
 have hold1:∀ b,b<w.heap.size→W1.heap[b]?=w.heap[b]?:=fun b hb=>by
  rw [← hW1];exact (Below.heap_alloc _ _ _ (by simp;omega)).trans (Below.heap_alloc _ _ _ hb)
 have hsz1:w.heap.size≤W1.heap.size:=by rw [← hW1];simp;omega
 have hkn1:Knows E0.K W1:=fun b x hb=>by
  have:=hcz.know b x hb
  rw [hold1 b (Array.getElem?_eq_some_iff.1 this).1];exact this
 have fresh:∀ b,w.heap.size≤b→E0.K b=none:=fun b hb=>by
  cases h:E0.K b with
  | none=>rfl
  | some x=>have:=(Array.getElem?_eq_some_iff.1 (hcz.know b x h)).1;omega
 have freshH:∀ n b,w.heap.size≤b→¬ E0.holds n b:=fun n b hb h=>by have:=hcz.lt n b h;omega
 have hw0:E0.c.w0.heap.size≤w.heap.size:=hcz.size
 have hmid:Mid B E0 a w.heap.size (w.heap.size+1) (.loop (loopRec fn a.tmps ps assign body w.heap.size .ready none)) (I 0) E0.K W1:=by
  refine ⟨E0,rfl,rfl,⟨?_,hs0.size,hs0.defers,hs0.slot⟩,hL1,hD1,fresh _ (by omega),fresh _ (by omega),fun n=>freshH n _ (by omega),fun n=>freshH n _ (by omega)⟩
  exact { hcz with
   know:=hkn1
   mem:=fun n o h=>(hcz.mem n o h).other fun b hb=>hold1 b (hcz.lt n b hb)
   lt:=fun n b h=>by have:=hcz.lt n b h;omega
   os:=by rw [← hW1];exact hcz.os
   tape:=by rw [← hW1];exact hcz.tape
   output:=by rw [← hW1];exact hcz.output
   size:=by omega
   old:=fun b hb hbW=>(hold1 b (by omega)).trans (hcz.old b hb hbW) }
 have hN:B.N≤w.heap.size:=by
  have:=B.fnN hBf _ _ _ hc.j
  have:=hc.size
  omega
 refine ⟨w.heap.size+1,[{ target:=.collected w.heap.size,args:=#[] }],W1,{ target:=.fn (.func f) cvs,args:=#[.func (.yield (w.heap.size+1)) #[] #[]] },W1,f,
  #[.func (.yield (w.heap.size+1)) #[] #[]]++cvs,W1,?_,?_,?_,?_,fun h=>absurd h (by simp [FB]),?_⟩
 ·rw [← hW1];exact run_enterLoop_outer _ _ _ _ _
 ·simp only [resolve,hcv]
  simp [go_sem]
 ·intro f' _;trivial
 ·have hb:fnc.body.isNone=false:=by cases hfb:fnc.body<;>simp [hfb] at hbody ⊢
  simp only [invoke,callFunc,Sem.run_bind,Sem.run_pure,Result.andThen_ok,run_program,hfn,hname,hb,Bool.false_eq_true,if_false]
 ·have hy:=range_yields (B:=B) (E0:=E0) (a:=a) (D:=w.heap.size) (l:=w.heap.size+1) (fn:=fn) (ps:=ps) (assign:=assign) (body:=body) (Q:=thenQ (fun s'=>Run P B s' cs Q) Q) (I:=I) (xs:=xs) (k:=k) (by omega) (by omega) hps hY round
  have hcall:=hit.calls (w.heap.size+1) k _ E0.K W1 cvs hk hy (.inl ⟨Nat.zero_le _,hmid⟩) hcz.laid hkn1 hcs (fun j hj=>by rw [hK0];exact ⟨hcr j hj,hco j hj⟩)
  have hFB:FB B.r=FB none:=by rw [hB]
  rw [hFB]
  refine CallsIn.mono hcall ?_
  rintro e w' ⟨⟨v,rfl⟩,K1,w1,K',hJ,hsi⟩
  have fin:∀ (sx:S) (rec:Loop) (jump:Option Code),rec.pending=jump→rec.state≠.busy→sx.noY=true→Mid B E0 a w.heap.size (w.heap.size+1) (.loop rec) sx K1 w1 →
    ∃ w4,(Instr.endLoop (w.heap.size+1)).run P w'=.ok jump w4∧∃ E',Sim B E' sx { a with defers:={ target:=.collected w.heap.size,args:=#[] } :: a.defers } w4:=by
   intro sx rec jump hp hb hn hm
   have hl:w'.heap[w.heap.size+1]?=some (.loop rec):=by
    obtain ⟨_,_,_,_,h,_⟩:=hm
    rw [hsi.old _ (Array.getElem?_eq_some_iff.1 h).1];exact h
   have:=run_endLoop (P:=P) hl hb
   rw [hp] at this
   exact ⟨_,this,range_end hm hsi hn (by omega) (by omega) (by omega) hN hBf⟩
  rcases hJ with ⟨hle,hm⟩ | ⟨hj,hlt,c,sx,hleft,hm⟩
  ·have hkk:k=xs.length∧stopN k xs.length=k:=by
    rcases Nat.lt_or_ge k xs.length with h | h
    ·rw [stopN_lt h] at hle;omega
    ·have:k=xs.length:=by omega
     exact ⟨this,by rw [this];exact stopN_eq _⟩
   rw [hkk.2] at hm
   obtain ⟨w4,h1,E',h2⟩:=fin _ _ none rfl (by simp [loopRec]) (hY k (Nat.le_refl _)) hm
   exact ⟨none,w4,h1,E',_,after hkk.1,h2⟩
  ·obtain ⟨hn,hleft⟩:=hleft
   obtain ⟨w4,h1,E',h2⟩:=fin _ _ (some c) rfl (by simp [loopRec]) hn hm
   refine ⟨some c,w4,h1,?_⟩
   rcases hleft with ⟨rfl,hq⟩ | ⟨id,rfl,hq⟩
   ·exact wpIn_ret ⟨E',_,hq,h2⟩
   ·exact wpIn_exit ⟨E',_,hq,h2⟩
end Go.Sym
namespace Go.Sym
open Go.RowKit
variable {P:Program} {B:Base P} {E:Env} {w:World}
theorem Core.learn{m:List (Option MO)}{g:Nat}{o:Obj}(hc:Core B E m w)(hno:∀ n,¬ E.holds n g)(ho:w.heap[g]?=some o)(hnew:E.c.w0.heap.size≤g):
  ∃ E',E.Le E'∧E'.K g=some o∧Core B E' m w:=by
 let K':Know:=fun b=>if b=g then some o else E.K b
 have hle:E.K.le K':=fun b x h=>by
  show (if b=g then _ else _)=_
  by_cases hb:b=g
  ·subst hb
   rw [if_pos rfl]
   have:=hc.know b x h
   rw [ho] at this;exact this
  ·rw [if_neg hb];exact h
 have hE:E.Le { E with K:=K' }:=⟨hle,fun _ _ h=>h,fun _ _ h=>h,rfl,fun r hd len h=>⟨hd,len,h,Nat.le_refl _,fun _=>rfl⟩⟩
 refine ⟨{ E with K:=K' },hE,if_pos rfl,?_⟩
 exact
 {laid:=hc.laid.mono hle
  know:=fun b x h=>by
   change (if b=g then some o else E.K b)=some x at h
   by_cases hb:b=g
   ·rw [if_pos hb] at h;rw [hb,ho];exact h
   ·rw [if_neg hb] at h;exact hc.know b x h
  base:=Know.le_trans hc.base hle
  nk:=fun b h1 h2=>by
   show (if b=g then _ else _)=_
   have h1':b<E.c.w0.heap.size:=h1
   rw [if_neg (by omega)];exact hc.nk b h1 h2
  mem:=fun n o h=>MRel.mono hE (hc.mem n o h) rfl
  cel:=hc.cel
  rw:=hc.rw
  mp:=hc.mp
  inj:=hc.inj
  apart:=fun n b h=>by
   show (if b=g then _ else _)=_
   have hne:b≠g:=fun e=>hno n (by rw [← e];exact h)
   rw [if_neg hne];exact hc.apart n b h
  new:=hc.new
  lt:=hc.lt
  os:=hc.os
  tape:=hc.tape
  output:=hc.output
  size:=hc.size
  old:=hc.old
  j:=hc.j
  y:=hc.y
  dsk:=fun D hD=>⟨hle _ _ (hc.dsk D hD).1,(hc.dsk D hD).2⟩
  dsn:=hc.dsn }
theorem Sim.le{E':Env}{s:S}{a:Act}{m':List (Option MO)}(hs:Sim B E s a w)(hle:E.Le E')(hc:Core B E' m' w):Sim B E' { s with m:=m' } a w:=
 ⟨hc,hs.size,by rw [hle.c];exact hs.defers,fun k x hk=>(hs.slot k x hk).mono hle⟩
theorem Sim.setSlot{s:S}{a:Act}{k:Nat}{x:SV}(hs:Sim B E s a w)(hx:RelSV E s.g x (a.tmps.getD k undef)):Sim B E { s with t:=s.t.set k x } a w:=by
 refine ⟨hs.core,by rw [List.length_set];exact hs.size,hs.defers,fun j y hj=>?_⟩
 rw [List.getElem?_set] at hj
 by_cases hk:k=j
 ·subst hk
  rw [if_pos rfl] at hj
  split at hj
  ·cases hj;exact hx
  ·cases hj
 ·rw [if_neg hk] at hj
  exact hs.slot j y hj
def frz(s:S)(k n:Nat)(c:C)(ks ns:List Nat):Option S:=
 match ({ s with t:=s.t.set k .junk }:S).slim ks (ns++[n]) with
 | some s1=>some { s1 with t:=s1.t.set k (.b (.v (.c c))) }
 | none=>none
theorem dropNames_append:∀ {ns:List Nat} {n:Nat} {s s':S},dropNames s (ns++[n])=some s'→∃ s1,dropNames s ns=some s1∧dropName s1 n=some s':=by
 intro ns
 induction ns with
 | nil =>
  intro n s s' h
  simp only [List.nil_append,dropNames] at h
  split at h
  ·rename_i s1 h1
   cases h
   exact ⟨s,rfl,h1⟩
  ·cases h
 | cons x ns ih =>
  intro n s s' h
  simp only [List.cons_append,dropNames] at h ⊢
  split at h
  ·rename_i s1 h1
   obtain ⟨s2,h2,h3⟩:=ih h
   exact ⟨s2,h2,h3⟩
  ·cases h
theorem run_frzRow{s s':S}{cs:List Code}{Q:Exit→S→Prop}(hB:∀ b,¬ B.W b)(k r n e sz:Nat)(css:List (List C))(f:Nat→List C)(ks ns:List Nat)(ht:s.t[k]?=some (.b (.v (.c (.row r n)))))(hm:s.m[r]?=some (some (.row e sz css))) 
  (hn:n=css.length) (hf:∀ i,i<n→f i=css.getD i []) (hz:frz s k r (.lst sz n f) ks ns=some s') (h:Run P B s' cs Q) (hne:cs≠[]):Run P B s cs Q:=by
 cases cs with
 | nil=>exact absurd rfl hne
 | cons c cs =>
 intro E a w hs
 unfold frz at hz
 split at hz
 case h_2=>cases hz
 rename_i s1 hs1
 cases hz
 have hk:=hs.slot k _ ht
 obtain ⟨hd,len,hrw,hle,hu⟩:∃ hd len,E.rw r=some (hd,len)∧n≤len∧(n=len→a.tmps.getD k undef=hd):=hk.1
 have hlen:=row_len hs.core hm hrw
 subst hlen
 replace hu:=hu hn
 have hs0:Sim B E { s with t:=s.t.set k .junk } a w:=hs.setSlot trivial
 obtain ⟨E1,hs1',hK1,hc1,hh1⟩:=wk_slim hs1 _ _ _ _ hs0
 obtain ⟨hszp,hlens,hd',xs,hrw',hown,hrel⟩:=hs.core.row hm
 rw [hrw] at hrw'
 cases hrw'
 have hgone:∀ g,hd.ownBlock=some g→∀ j,¬ E1.holds j g:=by
  intro g hg j hj
  have hj':=hh1 j g hj
  have hjr:j=r:=hs.core.inj j r g hj' (.inr (.inr ⟨hd,_,hrw,hg⟩))
  subst hjr
  have hmn:s1.m[j]?=some none:=by
   unfold S.slim at hs1
   obtain ⟨s2,h2,h3⟩:=dropNames_append hs1
   unfold dropName at h3
   split at h3
   ·cases h3
   ·cases h3
    have hlt:j<s2.m.length:=by
     have hl:∀ {ns:List Nat} {s s':S},dropNames s ns=some s'→s'.m.length=s.m.length:=by
      intro ns
      induction ns with
      | nil=>intro s s' h;simp only [dropNames] at h;cases h;rfl
      | cons n ns ih =>
       intro s s' h
       simp only [dropNames] at h
       split at h
       ·rename_i s1 h1
        rw [ih h]
        unfold dropName at h1
        split at h1
        ·cases h1
        ·cases h1;simp
       ·cases h
     rw [hl h2]
     exact (List.getElem?_eq_some_iff.1 hm).1
    simp [hlt]
  obtain ⟨h1,h2,h3⟩:=hs1'.core.nothing hmn
  rcases hj with h | h | ⟨_,_,h,_⟩
  ·rw [h1] at h;cases h
  ·rw [h3] at h;cases h
  ·rw [h2] at h;cases h
 rcases hown.2 with ⟨h0,h1⟩ | ⟨g,cap,cur,hv,hb,hg,hnc,hcm,hcs,htake⟩
 ·have hz:n=0:=by omega
  subst hz
  refine h E1 a w (hs1'.setSlot (x:=.b (.v (.c (.lst sz 0 f)))) ⟨?_,?_⟩)
  ·rw [hu,h0];exact RelK.lst0 sz f
  ·rw [hu,h0];rfl
 ·obtain ⟨arr,hg2,hsz2,hcap2,hcl2,hcm2,hrel2⟩:=row_cells (hs.core.row hm) hrw hv
  have hgn:E1.c.w0.heap.size≤g:=by
   rw [hc1]
   rcases hs.core.new r g (.inr (.inr ⟨hd,_,hrw,by rw [hv];rfl⟩)) with h | h
   ·exact h
   ·exact absurd h (hB g)
  obtain ⟨E2,hle2,hKg,hc2⟩:=hs1'.core.learn (hgone g (by rw [hv];rfl)) hg2 hgn
  have hs2:Sim B E2 s1 a w:=hs1'.le hle2 hc2
  have hl:RelK E2.K (.lst sz n f) (a.tmps.getD k undef):=by
   rw [hu,hv]
   rw [← hn]
   refine relK_lst_of hKg (fun i hi=>?_) (by rw [hn];exact hsz2) (by omega) (by omega) (fun i j hi hj=>?_)
   ·rw [hf i hi]
    refine hlens _ ?_
    have hi':i<css.length:=by omega
    simp only [gE,List.getElem?_eq_getElem hi',Option.getD_some]
    exact List.getElem_mem hi'
   ·rw [hf i hi]
    obtain ⟨g1,g2⟩:=hrel2 i j (by omega) hj
    have hKK:E.K.le E2.K:=by rw [← hK1];exact hle2.K
    exact ⟨g1.mono hKK,g2⟩
  exact h E2 a w (hs2.setSlot (x:=.b (.v (.c (.lst sz n f)))) ⟨hl,hl.one (by simp)⟩)
theorem slim_none{s s':S}{ks ns:List Nat}{n:Nat}(h:s.slim ks (ns++[n])=some s')(hn:n<s.m.length):s'.m[n]?=some none:=by
 unfold S.slim at h
 obtain ⟨s2,h2,h3⟩:=dropNames_append h
 unfold dropName at h3
 split at h3
 ·cases h3
 ·cases h3
  have hl:∀ {ns:List Nat} {s s':S},dropNames s ns=some s'→s'.m.length=s.m.length:=by
   intro ns
   induction ns with
   | nil=>intro s s' h;simp only [dropNames] at h;cases h;rfl
   | cons n ns ih =>
    intro s s' h
    simp only [dropNames] at h
    split at h
    ·rename_i s1 h1
     rw [ih h]
     unfold dropName at h1
     split at h1
     ·cases h1
     ·cases h1;simp
    ·cases h
  have hlt:n<s2.m.length:=by rw [hl h2];exact hn
  simp [hlt]
theorem run_frzMap{s s':S}{cs:List Code}{Q:Exit→S→Prop}(hB:B.Fn)(k r:Nat)(kagg agg:Bool)(ents:List (List C×List C))(ks ns:List Nat)(ht:s.t[k]?=some (.b (.v (.c (.omap r)))))(hm:s.m[r]?=some (some (.omap kagg agg ents))) 
  (hz:frz s k r (.kmap kagg agg ents) ks ns=some s') (h:Run P B s' cs Q) (hne:cs≠[]):Run P B s cs Q:=by
 cases cs with
 | nil=>exact absurd rfl hne
 | cons c cs =>
 intro E a w hs
 unfold frz at hz
 split at hz
 case h_2=>cases hz
 rename_i s1 hs1
 cases hz
 have hk:=hs.slot k _ ht
 obtain ⟨b,hmp,hu⟩:∃ b,E.mp r=some b∧a.tmps.getD k undef=.map (some b):=hk.1
 have hs0:Sim B E { s with t:=s.t.set k .junk } a w:=hs.setSlot trivial
 obtain ⟨E1,hs1',hK1,hc1,hh1⟩:=wk_slim hs1 _ _ _ _ hs0
 obtain ⟨b',es,hmp',hb,hrel⟩:=hs.core.mem r _ hm
 rw [hmp] at hmp'
 cases hmp'
 have hheld:E.holds r b:=.inr (.inl hmp)
 have hgone:∀ j,¬ E1.holds j b:=by
  intro j hj
  have hjr:j=r:=hs.core.inj j r b (hh1 j b hj) hheld
  subst hjr
  have hmn:=slim_none hs1 ((List.getElem?_eq_some_iff.1 hm).1)
  obtain ⟨h1,h2,h3⟩:=hs1'.core.nothing hmn
  rcases hj with h | h | ⟨_,_,h,_⟩
  ·rw [h1] at h;cases h
  ·rw [h3] at h;cases h
  ·rw [h2] at h;cases h
 have hgn:E1.c.w0.heap.size≤b:=by
  rw [hc1]
  rcases hs.core.new r b hheld with h | h
  ·exact h
  ·exact absurd h (hB.W b)
 obtain ⟨E2,hle2,hKg,hc2⟩:=hs1'.core.learn hgone hb hgn
 have hs2:Sim B E2 s1 a w:=hs1'.le hle2 hc2
 have hKK:E.K.le E2.K:=by rw [← hK1];exact hle2.K
 have hget:∀ j,j<ents.length→es[j]?=some (es.getD j default):=fun j hj=>by
  have:j<es.size:=by rw [hrel.1];exact hj
  simp [this]
 have hl:RelK E2.K (.kmap kagg agg ents) (a.tmps.getD k undef):=by
  rw [hu]
  refine .kmap kagg agg ents b es (fun j=>es.getD j default) hKg hrel.1 (fun j hj=>?_) hget (fun j hj=>?_) (fun j i hj hi=>?_) (fun j i hj hi=>?_) (fun j hj=>?_) (fun j hj=>?_) (fun j i hj hi=>?_) (fun j i hj hi=>?_) (fun j hj=>?_)
  ·exact (hrel.2 j _ (hget j hj)).2.2
  ·exact (hrel.2 j _ (hget j hj)).1.1.1
  ·exact ((hrel.2 j _ (hget j hj)).1.1.2 i hi).1.mono hKK
  ·exact ((hrel.2 j _ (hget j hj)).1.1.2 i hi).2
  ·exact (hrel.2 j _ (hget j hj)).1.2
  ·exact (hrel.2 j _ (hget j hj)).2.1.1.1
  ·exact ((hrel.2 j _ (hget j hj)).2.1.1.2 i hi).1.mono hKK
  ·exact ((hrel.2 j _ (hget j hj)).2.1.1.2 i hi).2
  ·exact (hrel.2 j _ (hget j hj)).2.1.2
 exact h E2 a w (hs2.setSlot (x:=.b (.v (.c (.kmap kagg agg ents)))) ⟨hl,hl.one (by simp)⟩)
theorem run_frzBoxW{s s':S}{cs:List Code}{Q:Exit→S→Prop}(hB:∀ b,¬ B.W b)(k r off:Nat)(xs:List C)(ks ns:List Nat)(ht:s.t[k]?=some (.b (.v (.c (.ptr r off)))))(hm:s.m[r]?=some (some (.cells xs))) 
  (hz:frz s k r (.kptr xs off) ks ns=some s') (h:Run P B s' cs Q) (hne:cs≠[]):Run P B s cs Q:=by
 cases cs with
 | nil=>exact absurd rfl hne
 | cons c cs =>
 intro E a w hs
 unfold frz at hz
 split at hz
 case h_2=>cases hz
 rename_i s1 hs1
 cases hz
 have hk:=hs.slot k _ ht
 obtain ⟨b,hcel,hu⟩:RelP E r off (a.tmps.getD k undef):=hk.1
 have hs0:Sim B E { s with t:=s.t.set k .junk } a w:=hs.setSlot trivial
 obtain ⟨E1,hs1',hK1,hc1,hh1⟩:=wk_slim hs1 _ _ _ _ hs0
 obtain ⟨b',arr,T,hcel',hb,hrel⟩:=hs.core.cells hm
 rw [hcel] at hcel'
 cases hcel'
 have hheld:E.holds r b:=.inl hcel
 have hgone:∀ j,¬ E1.holds j b:=by
  intro j hj
  have hjr:j=r:=hs.core.inj j r b (hh1 j b hj) hheld
  subst hjr
  have hmn:=slim_none hs1 ((List.getElem?_eq_some_iff.1 hm).1)
  obtain ⟨h1,h2,h3⟩:=hs1'.core.nothing hmn
  rcases hj with h | h | ⟨_,_,h,_⟩
  ·rw [h1] at h;cases h
  ·rw [h3] at h;cases h
  ·rw [h2] at h;cases h
 have hgn:E1.c.w0.heap.size≤b:=by
  rw [hc1]
  rcases hs.core.new r b hheld with h | h
  ·exact h
  ·exact absurd h (hB b)
 obtain ⟨E2,hle2,hKg,hc2⟩:=hs1'.core.learn hgone hb hgn
 have hs2:Sim B E2 s1 a w:=hs1'.le hle2 hc2
 have hKK:E.K.le E2.K:=by rw [← hK1];exact hle2.K
 have hl:RelK E2.K (.kptr xs off) (a.tmps.getD k undef):=by
  rw [hu]
  exact .kptr xs off b arr T (0,0) hKg hrel.1 (fun j hj=>(hrel.2 j hj).1.mono hKK) (fun j hj=>(hrel.2 j hj).2)
 exact h E2 a w (hs2.setSlot (x:=.b (.v (.c (.kptr xs off)))) ⟨hl,hl.one (by simp)⟩)
theorem run_frzBox{s s':S}{cs:List Code}{Q:Exit→S→Prop}(hB:B.Fn)(k r off:Nat)(xs:List C)(ks ns:List Nat)(ht:s.t[k]?=some (.b (.v (.c (.ptr r off)))))(hm:s.m[r]?=some (some (.cells xs))) 
  (hz:frz s k r (.kptr xs off) ks ns=some s') (h:Run P B s' cs Q) (hne:cs≠[]):Run P B s cs Q:=run_frzBoxW hB.W k r off xs ks ns ht hm hz h hne
theorem wk_nilLst{s:S}(k sz:Nat)(f:Nat→List C)(ht:s.t[k]?=some (.b (.v (.c .nil)))):Wk P s { s with t:=s.t.set k (.b (.v (.c (.lst sz 0 f)))) }:=by
 intro B E a w hs
 refine ⟨E,hs.setSlot ?_,rfl,rfl,fun _ _ h=>h⟩
 have hk:=hs.slot k _ ht
 have h1:RelK E.K .nil (a.tmps.getD k undef):=hk.1
 generalize a.tmps.getD k undef=u at h1
 cases h1
 exact ⟨RelK.lst0 sz f,rfl⟩
theorem core_nilRow{m:List (Option MO)}{r e sz:Nat}(hc:Core B E m w)(hm:m[r]?=some none)(hsz:0<sz):
  ∃ E',E.Le E'∧E'.K=E.K∧E'.rw r=some (.slice none 0 0,0)∧(∀ n b,E'.holds n b→E.holds n b)∧Core B E' (m.set r (some (.row e sz []))) w:=by
 obtain ⟨hcn,hrn,hmn⟩:=hc.nothing hm
 let E':Env:={ E with rw:=fun k=>if k=r then some (.slice none 0 0,0) else E.rw k }
 have hrw:E'.rw r=some (.slice none 0 0,0):=if_pos rfl
 have hle:E.Le E':=⟨Know.le_refl _,fun _ _ h=>h,fun _ _ h=>h,rfl,fun q hd k h=>by
   refine ⟨hd,k,?_,Nat.le_refl _,fun _=>rfl⟩
   show (if q=r then _ else E.rw q)=_
   by_cases hk:q=r
   ·subst hk;rw [hrn] at h;cases h
   ·rw [if_neg hk];exact h⟩
 have hh:∀ b,¬ E'.holds r b:=fun b h=>by
  rcases h with h | h | ⟨hd,k,h,h'⟩
  ·rw [show E'.cel r=E.cel r from rfl,hcn] at h;cases h
  ·rw [show E'.mp r=E.mp r from rfl,hmn] at h;cases h
  ·rw [hrw] at h;cases h;cases h'
 refine ⟨E',hle,rfl,hrw,fun n b h=>?_,hc.step ⟨_,hm⟩ hle rfl (fun k hk=>⟨rfl,if_neg hk,rfl⟩) (fun b h=>?_) (fun x h=>rfl) (fun b h=>?_) ?_ (fun b' h=>absurd h (hh b')) (Nat.le_refl _) rfl rfl rfl (fun _ _ _=>rfl)⟩
 ·by_cases hn:n=r
  ·subst hn;exact absurd h (hh b)
  ·rcases h with h | h | ⟨hd,k,h,h'⟩
   ·exact .inl h
   ·exact .inr (.inl h)
   ·exact .inr (.inr ⟨hd,k,(if_neg hn).symm.trans h,h'⟩)
 ·rw [show E'.cel r=E.cel r from rfl,hcn] at h;cases h
 ·rw [show E'.mp r=E.mp r from rfl,hmn] at h;cases h
 ·exact ⟨hsz,by simp,_,[],hrw,World.ownsRow_nil w 0 e sz,by simp,fun j hj=>by simp at hj⟩
theorem wk_nilRow{s:S}(k r e sz:Nat)(ht:s.t[k]?=some (.b (.v (.c .nil))))(hm:s.m[r]?=some none)(hsz:0<sz):
  Wk P s { s with t:=s.t.set k (.b (.v (.c (.row r 0)))),m:=s.m.set r (some (.row e sz [])) }:=by
 intro B E a w hs
 obtain ⟨E',hle,hK,hrw,hh,hc⟩:=core_nilRow (e:=e) hs.core hm hsz
 refine ⟨E',(hs.le hle hc).setSlot (x:=.b (.v (.c (.row r 0)))) ?_,hK,hle.c,hh⟩
 have hk:=hs.slot k _ ht
 have h1:RelK E.K .nil (a.tmps.getD k undef):=hk.1
 generalize a.tmps.getD k undef=u at h1
 cases h1
 exact ⟨⟨_,_,hrw,Nat.le_refl _,fun _=>rfl⟩,rfl⟩
theorem wk_nilCell{s:S}(n i r e sz:Nat)(cs:List C)(hn:s.m[n]?=some (some (.cells cs)))(hi:cs[i]?=some .nil)(hm:s.m[r]?=some none)(hsz:0<sz):
  Wk P s { s with m:=(s.m.set r (some (.row e sz []))).set n (some (.pcells (cs.set i (.row r 0)))) }:=by
 intro B E a w hs
 obtain ⟨E',hle,hK,hrw,hh,hc⟩:=core_nilRow (e:=e) hs.core hm hsz
 have hne:n≠r:=fun e=>by rw [e,hm] at hn;cases hn
 have hn':(s.m.set r (some (.row e sz [])))[n]?=some (some (.cells cs)):=by rw [getElem?_set_ne hne];exact hn
 refine ⟨E',?_,hK,hle.c,hh⟩
 have hc2:Core B E' ((s.m.set r (some (.row e sz []))).set n (some (.pcells (cs.set i (.row r 0))))) w:=by
  obtain ⟨b,arr,T,hb,hheap,hrel⟩:=hc.cells hn'
  obtain ⟨hrn,hmn⟩:=hc.noRow hb
  refine hc.step ⟨_,hn'⟩ (Env.Le.refl E') rfl (fun _ _=>⟨rfl,rfl,rfl⟩) (fun b h=>rfl) (fun x h=>?_) (fun b h=>?_) ?_ (fun b' h=>⟨.inr h,hc.lt n b' h⟩) (Nat.le_refl _) rfl rfl rfl (fun _ _ _=>rfl)
  ·rw [hrn] at h;cases h
  ·rw [hmn] at h;cases h
  ·refine ⟨b,arr,T,hb,hheap,by rw [List.length_set];exact hrel.1,fun j hj=>?_⟩
   rw [List.length_set] at hj
   obtain ⟨g1,g2⟩:=hrel.2 j hj
   refine ⟨?_,g2⟩
   by_cases hij:i=j
   ·subst hij
    have e1:cs.getD i .junk=.nil:=by simp [gE,hi]
    have e2:(cs.set i (.row r 0)).getD i .junk=.row r 0:=by simp [gE,hj]
    rw [e1] at g1
    rw [e2]
    generalize arr.getD i undef=u at g1
    cases g1
    exact ⟨_,_,hrw,Nat.le_refl _,fun _=>rfl⟩
   ·have e2:(cs.set i (.row r 0)).getD j .junk=cs.getD j .junk:=by simp [gE,hij]
    rw [e2]
    exact Rel.of_relK g1
 exact hs.le hle hc2
end Go.Sym
namespace Go.Sym
variable {P:Program} {B:Base P}
def getS:Option S→S
 | some s=>s
 | none=>⟨[],[],[]⟩
theorem getS_eq{x:Option S}(h:x.isSome=true):x=some (getS x):=by
 cases x with
 | none=>cases h
 | some s=>rfl
theorem frzMap{s:S}{cs:List Code}{Q:Exit→S→Prop}(hB:B.Fn)(k r:Nat)(kagg agg:Bool)(ents:List (List C×List C))(ks ns:List Nat)(ht:s.t[k]?=some (.b (.v (.c (.omap r)))))(hm:s.m[r]?=some (some (.omap kagg agg ents))) 
  (hz:(frz s k r (.kmap kagg agg ents) ks ns).isSome=true) (h:Run P B (getS (frz s k r (.kmap kagg agg ents) ks ns)) cs Q) (hne:cs≠[]):Run P B s cs Q:=
 run_frzMap hB k r kagg agg ents ks ns ht hm (getS_eq hz) h hne
theorem frzBox{s:S}{cs:List Code}{Q:Exit→S→Prop}(hB:B.Fn)(k r off:Nat)(xs:List C)(ks ns:List Nat)(ht:s.t[k]?=some (.b (.v (.c (.ptr r off)))))(hm:s.m[r]?=some (some (.cells xs))) 
  (hz:(frz s k r (.kptr xs off) ks ns).isSome=true) (h:Run P B (getS (frz s k r (.kptr xs off) ks ns)) cs Q) (hne:cs≠[]):Run P B s cs Q:=
 run_frzBox hB k r off xs ks ns ht hm (getS_eq hz) h hne
theorem frzBoxW{s:S}{cs:List Code}{Q:Exit→S→Prop}(hB:∀ b,¬ B.W b)(k r off:Nat)(xs:List C)(ks ns:List Nat)(ht:s.t[k]?=some (.b (.v (.c (.ptr r off)))))(hm:s.m[r]?=some (some (.cells xs))) 
  (hz:(frz s k r (.kptr xs off) ks ns).isSome=true) (h:Run P B (getS (frz s k r (.kptr xs off) ks ns)) cs Q) (hne:cs≠[]):Run P B s cs Q:=
 run_frzBoxW hB k r off xs ks ns ht hm (getS_eq hz) h hne
theorem frzRow{s:S}{cs:List Code}{Q:Exit→S→Prop}(hB:B.Fn)(k r n e sz:Nat)(css:List (List C))(f:Nat→List C)(ks ns:List Nat)(ht:s.t[k]?=some (.b (.v (.c (.row r n)))))(hm:s.m[r]?=some (some (.row e sz css))) 
  (hn:n=css.length) (hf:∀ i,i<n→f i=css.getD i []) (hz:(frz s k r (.lst sz n f) ks ns).isSome=true) (h:Run P B (getS (frz s k r (.lst sz n f) ks ns)) cs Q) (hne:cs≠[]):Run P B s cs Q:=
 run_frzRow hB.W k r n e sz css f ks ns ht hm hn hf (getS_eq hz) h hne
theorem frzRowW{s:S}{cs:List Code}{Q:Exit→S→Prop}(hB:∀ b,¬ B.W b)(k r n e sz:Nat)(css:List (List C))(f:Nat→List C)(ks ns:List Nat)(ht:s.t[k]?=some (.b (.v (.c (.row r n)))))(hm:s.m[r]?=some (some (.row e sz css))) 
  (hn:n=css.length) (hf:∀ i,i<n→f i=css.getD i []) (hz:(frz s k r (.lst sz n f) ks ns).isSome=true) (h:Run P B (getS (frz s k r (.lst sz n f) ks ns)) cs Q) (hne:cs≠[]):Run P B s cs Q:=
 run_frzRow hB k r n e sz css f ks ns ht hm hn hf (getS_eq hz) h hne
theorem wkSlim{s:S}(ks ns:List Nat)(h:(s.slim ks ns).isSome=true):Wk P s (getS (s.slim ks ns)):=wk_slim (getS_eq h)
end Go.Sym
namespace Go.Sym
open Go.RowKit
variable {P:Program} {B:Base P}
def flatC:Code→List Code→List Code
 | .seq a b,cs=>flatC a (flatC b cs)
 | .skip,cs=>cs
 | .label _,cs=>cs
 | c,cs=>c :: cs
theorem run_flat:∀ {c:Code} {s:S} {cs:List Code} {Q:Exit→S→Prop},Run P B s (flatC c cs) Q→Run P B s (c :: cs) Q:=by
 intro c
 induction c with
 | seq a b iha ihb =>
  intro s cs Q h
  refine run_seq (iha ?_)
  have mono:∀ {l l':List Code} {s:S},(∀ s,Run P B s l Q→Run P B s l' Q)→Run P B s (flatC a l) Q→Run P B s (flatC a l') Q:=by
   intro l l' s hl
   have key:∀ {c:Code} {l l':List Code} {s:S},(∀ s,Run P B s l Q→Run P B s l' Q)→Run P B s (flatC c l) Q→Run P B s (flatC c l') Q:=by
    intro c
    induction c with
    | seq a b iha ihb=>intro l l' s hl h;exact iha (fun s h=>ihb hl h) h
    | skip=>intro l l' s hl h;exact hl s h
    | label n=>intro l l' s hl h;exact hl s h
    | _ =>
     intro l l' s hl h
     exact tri_mono h fun e s' hq=>by cases e<;>first | exact hl s' hq | exact hq
   exact key hl
  exact mono (fun s h=>ihb h) h
 | skip=>intro s cs Q h;exact run_skip h
 | label n=>intro s cs Q h;exact run_label h
 | _=>intro s cs Q h;exact h
theorem fcall_of{f:FuncId}{fn:Func}{c:Code}{args:List CV}{r:SB}(hf:P.funcs[f]?=some fn)(hb:fn.body=some c)(hname:(fn.name== "runtime.NumGoroutine")=false) 
  (ht:∀ B:Base P,B.Fn→Run P B (initS fn.ntmps args) (flatC c []) (Ends P fn.results.toList r)):FCall P f args r:=
 fcall_of_tri hf hb hname fun B hB=>run_flat (ht B hB)
theorem fiter_of{f:FuncId}{fn:Func}{c:Code}{caps:List C}{xs:List (List CV)}(hf:P.funcs[f]?=some fn)(hb:fn.body=some c)(hname:(fn.name== "runtime.NumGoroutine")=false)(hres:fn.results.toList=[]) 
  (ht:∀ (k:Nat) (B:Base P),k≤xs.length→(B.r=none∧∀ b,¬ B.W b)→Run P B (iterS fn.ntmps caps xs k) (flatC c []) (IterEnds P xs k)):FIter P f caps xs:=
 fiter_of_run hf hb hname hres fun k B h1 h2=>run_flat (ht k B h1 h2)
theorem rCond{s:S}{c:Operand}{x y:Code}{cs:List Code}{Q:Exit→S→Prop}(b:Bool)(hc:s.ev [] c=some (.v (.c (.bool b))))(ht:b=true→Run P B s (flatC x cs) Q)(hf:b=false→Run P B s (flatC y cs) Q):
  Run P B s (.cond c x y :: cs) Q:=run_cond b hc (fun h=>run_flat (ht h)) (fun h=>run_flat (hf h))
theorem rCondT{s:S}{c:Operand}{x y:Code}{cs:List Code}{Q:Exit→S→Prop}(b:Bool)(hc:s.ev [] c=some (.v (.c (.bool b))))(hb:b=true)(h:Run P B s (flatC x cs) Q):Run P B s (.cond c x y :: cs) Q:=run_cond_t b hc hb (run_flat h)
theorem rCondF{s:S}{c:Operand}{x y:Code}{cs:List Code}{Q:Exit→S→Prop}(b:Bool)(hc:s.ev [] c=some (.v (.c (.bool b))))(hb:b=false)(h:Run P B s (flatC y cs) Q):Run P B s (.cond c x y :: cs) Q:=run_cond_f b hc hb (run_flat h)
theorem rBlock{s:S}{id:Nat}{c:Code}{cs:List Code}{Q:Exit→S→Prop}(h:Run P B s (flatC c []) (blockR P B id cs Q)):Run P B s (.block id c :: cs) Q:=run_block (run_flat h)
theorem rLoop{σ:Type}{s:S}{c:Code}{cs:List Code}{Q:Exit→S→Prop}(I:σ→S)(R:σ→Prop)(μ:σ→Nat)(x:σ)(hw:Wk P s (I x))(h0:R x)(round:∀ x,R x→Run P B (I x) (flatC c []) (loopR P I R μ x Q)):Run P B s (.loop c :: cs) Q:=
 run_loop I R μ x hw h0 fun x hx=>run_flat (round x hx)
theorem rRange{s:S}{g:Operand}{ps:Array Tmp}{assign body:Code}{cs:List Code}{Q:Exit→S→Prop}{f:FuncId}{caps:List C}{xs:List (List CV)}(hB:B.r=none)(hBf:B.fn=true)(hg:s.ev [] g=some (.v (.c (.clo f caps))))(hit:FIter P f caps xs) 
  (hps:∀ i,i<xs.length→(xs.getD i []).length=ps.size) (k:Nat) (hk:k≤xs.length) (I:Nat→S) (hI:Wk P s (I 0)) (hY:∀ i,i≤k→(I i).noY=true)
  (round:∀ i,i<xs.length→i≤k→∀ B1:Base P,Run P B1 (startR (I i) ps.toList (xs.getD i [])) (flatC assign []) (fun e s1=>e=.normal∧s1.noY=true∧∀ B2:Base P,Run P B2 s1 (flatC body []) (roundR P (thenQ (fun s'=>Run P B s' cs Q) Q) I i k)))
  (after:k=xs.length→Run P B (I k) cs Q):Run P B s (.rangeFunc g ps assign body :: cs) Q:=
 run_rangeFunc hB hBf hg hit hps k hk I hI hY (fun i h1 h2 B1=>tri_mono (run_tri (run_flat (round i h1 h2 B1))) fun e s' hq=>by
  have h:e=.normal∧s'.noY=true∧∀ B2:Base P,Run P B2 s' (flatC body []) (roundR P (thenQ (fun s'=>Run P B s' cs Q) Q) I i k):=by cases e<;>exact hq
  have h2:e=.normal∧s'.noY=true∧∀ B2:Base P,Run P B2 s' [body] (roundR P (thenQ (fun s'=>Run P B s' cs Q) Q) I i k):=⟨h.1,h.2.1,fun B2=>run_flat (h.2.2 B2)⟩
  obtain ⟨rfl,_⟩:=h
  exact h2) after
theorem w64(a:Int)(h1 : -9223372036854775808≤a)(h2:a≤9223372036854775807):IntKind.i64.wrap a=a:=by
 rw [IntKind.wrap_i64];omega
theorem wkTo{s s':S}(ks ns:List Nat)(h:s.slim ks ns=some s'):Wk P s s':=wk_slim h
end Go.Sym
