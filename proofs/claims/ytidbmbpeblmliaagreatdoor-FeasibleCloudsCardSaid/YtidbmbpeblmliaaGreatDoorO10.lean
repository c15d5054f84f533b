/- Part of the proof of the statement that the claim's last text names: contracts of functions and laws of the symbolic layer. -/
import Derived.Scope
import Derived.Test.YtidbmbpeblmliaaGreatDoorO09
import Derived.KernelRfl
set_option linter.unusedVariables false
set_option linter.unusedSimpArgs false
namespace Go.Sym
open Go.RowKit
variable {P:Program} {B:Base P} {E:Env} {w:World}
def Tri(P:Program)(B:Base P)(s:S)(c:Code)(Q:Exit→S→Prop):Prop:=
 ∀ (E:Env) (a:Act) (w:World),Sim B E s a w→c.wpIn (FB B.r) 0 P (fun e a' w'=>∃ E' s',Q e s'∧Sim B E' s' a' w') a w
theorem tri_mono{s:S}{c:Code}{Q Q':Exit→S→Prop}(h:Tri P B s c Q)(hQ:∀ e s,Q e s→Q' e s):Tri P B s c Q':=
 fun E a w hs=>wpIn_mono (h E a w hs) fun _ _ _ ⟨E',s',h1,h2⟩=>⟨E',s',hQ _ _ h1,h2⟩
@[reducible] def thenQ(N:S→Prop)(Q:Exit→S→Prop):Exit→S→Prop
 | .normal,s=>N s
 | e,s=>Q e s
theorem tri_seq{s:S}{x y:Code}{Q:Exit→S→Prop}(h:Tri P B s x (thenQ (fun s'=>Tri P B s' y Q) Q)):Tri P B s (.seq x y) Q:=by
 intro E a w hs
 refine wpIn_seq (wpIn_mono (h E a w hs) ?_)
 rintro e a' w' ⟨E',s',h1,h2⟩
 cases e<;>first
  | exact h1 E' a' w' h2
  | exact ⟨E',s',h1,h2⟩
theorem tri_skip{s:S}{Q:Exit→S→Prop}(h:Q .normal s):Tri P B s .skip Q:=fun E _ _ hs=>wpIn_skip ⟨E,s,h,hs⟩
theorem tri_label{s:S}{l:Nat}{Q:Exit→S→Prop}(h:Q .normal s):Tri P B s (.label l) Q:=fun E _ _ hs=>wpIn_label ⟨E,s,h,hs⟩
theorem tri_exit{s:S}{id:Nat}{Q:Exit→S→Prop}(h:Q (.exit id) s):Tri P B s (.exit id) Q:=fun E _ _ hs=>wpIn_exit ⟨E,s,h,hs⟩
theorem tri_ret{s:S}{Q:Exit→S→Prop}(h:Q .ret s):Tri P B s .ret Q:=fun E _ _ hs=>wpIn_ret ⟨E,s,h,hs⟩
theorem tri_region{s s':S}{id:Nat}{ops:Array Oper}{draw:Bool}{q:List Ask}{Q:Exit→S→Prop}(hs:List (Nat×Hint))(hF:elderAny hs=true→∀ b,¬ B.W b)(hmix:P.follows .mixedOrders=true)(he:evalRegion P ops draw hs s=some (s',q))(hq:allA q)(h:Q .normal s'):
  Tri P B s (.region id ops draw) Q:=
 fun _ _ _ hs0=>region_sound hF hmix he hq hs0 fun _ _ E' hs'=>⟨E',s',h,hs'⟩
def nextS:Option (S×List Ask)→S
 | some (s,_)=>s
 | none=>⟨[],[],[]⟩
def asks:Option (S×List Ask)→List Ask
 | some (_,q)=>q
 | none=>[⟨true,False⟩]
structure Asked (x:Option (S×List Ask)):Prop where
 out:allA (asks x)
theorem asks_of{x:Option (S×List Ask)}(l:List Prop)(e:(asks x).map Ask.p=l)(h:allP l):Asked x:=by
 subst e
 refine ⟨?_⟩
 revert h
 generalize asks x=q
 induction q with
 | nil=>intro _;trivial
 | cons y q ih=>intro h;rw [List.map_cons,allP_cons] at h;exact ⟨fun _=>h.1,ih h.2⟩
def Ask.whole(a:Ask):Prop:=a.g=true→a.p
theorem asks_if{x:Option (S×List Ask)}(l:List Prop)(e:(asks x).map Ask.whole=l)(h:allP l):Asked x:=by
 subst e
 refine ⟨?_⟩
 revert h
 generalize asks x=q
 induction q with
 | nil=>intro _;trivial
 | cons y q ih=>intro h;rw [List.map_cons,allP_cons] at h;exact ⟨h.1,ih h.2⟩
theorem asks_nil{x:Option (S×List Ask)}(e:asks x=[]):Asked x:=⟨e▸trivial⟩
theorem tri_reg{s:S}{id:Nat}{ops:Array Oper}{draw:Bool}{Q:Exit→S→Prop}(hs:List (Nat×Hint))(hF:elderAny hs=true→∀ b,¬ B.W b)(hmix:P.follows .mixedOrders=true)(hq:Asked (evalRegion P ops draw hs s))(h:Q .normal (nextS (evalRegion P ops draw hs s))):
  Tri P B s (.region id ops draw) Q:=by
 have hq:=hq.out
 cases he:evalRegion P ops draw hs s with
 | none=>rw [he] at hq;exact (hq.1 rfl).elim
 | some x =>
  obtain ⟨s',q⟩:=x
  rw [he] at hq h
  exact tri_region hs hF hmix he hq h
theorem tri_cond{s:S}{c:Operand}{x y:Code}{Q:Exit→S→Prop}(b:Bool)(hc:s.ev [] c=some (.v (.c (.bool b))))(ht:b=true→Tri P B s x Q)(hf:b=false→Tri P B s y Q):Tri P B s (.cond c x y) Q:=by
 intro E a w hs
 have hb:a.eval c=.bool b:=relSB_bool (ev_rel (p:=[]) hs rfl hc)
 exact wpIn_cond_split hb (fun h=>ht h E a w hs) (fun h=>hf h E a w hs)
@[reducible] def blockQ(id:Nat)(Q:Exit→S→Prop):Exit→S→Prop
 | .exit k,s=>if k=id then Q .normal s else Q (.exit k) s
 | e,s=>Q e s
theorem tri_block{s:S}{id:Nat}{c:Code}{Q:Exit→S→Prop}(h:Tri P B s c (blockQ id Q)):Tri P B s (.block id c) Q:=by
 intro E a w hs
 refine wpIn_block (wpIn_mono (h E a w hs) ?_)
 rintro e a' w' ⟨E',s',h1,h2⟩
 cases e with
 | exit k =>
  simp only [blockQ] at h1
  simp only [Exit.inBlock]
  by_cases hk:k=id
  ·subst hk
   rw [if_pos rfl] at h1 ⊢
   exact ⟨E',s',h1,h2⟩
  ·rw [if_neg hk] at h1 ⊢
   exact ⟨E',s',h1,h2⟩
 | _=>exact ⟨E',s',h1,h2⟩
def Wk(P:Program)(s s':S):Prop:=∀ (B:Base P) (E:Env) (a:Act) (w:World),Sim B E s a w→∃ E',Sim B E' s' a w∧E'.K=E.K∧E'.c=E.c∧∀ n b,E'.holds n b→E.holds n b
theorem Wk.refl(s:S):Wk P s s:=fun _ E _ _ h=>⟨E,h,rfl,rfl,fun _ _ h=>h⟩
theorem Wk.trans{s s' s'':S}(h:Wk P s s')(h':Wk P s' s''):Wk P s s'':=fun B E a w hs =>
 let ⟨E',h1,k1,c1,l1⟩:=h B E a w hs
 let ⟨E'',h2,k2,c2,l2⟩:=h' B E' a w h1
 ⟨E'',h2,k2.trans k1,c2.trans c1,fun n b hb=>l1 n b (l2 n b hb)⟩
theorem tri_weaken{s s':S}{c:Code}{Q:Exit→S→Prop}(h:Wk P s s')(ht:Tri P B s' c Q):Tri P B s c Q:=fun E a w hs =>
 let ⟨E',h1,_⟩:=h B E a w hs
 ht E' a w h1
def keepSlots:List SV→Nat→List Nat→List SV
 | [],_,_=>[]
 | x :: r,k,ks=>(if ks.any (Nat.beq k ·) then x else .junk) :: keepSlots r (k+1) ks
theorem keepSlots_get{ks:List Nat}:∀ {l:List SV} {i k:Nat} {x:SV},(keepSlots l i ks)[k]?=some x→x=.junk∨l[k]?=some x:=by
 intro l
 induction l with
 | nil=>intro i k x h;simp [keepSlots] at h
 | cons y l ih =>
  intro i k x h
  cases k with
  | zero =>
   simp only [keepSlots,List.getElem?_cons_zero,Option.some.injEq] at h
   split at h
   ·right;simp [h]
   ·left;exact h.symm
  | succ k =>
   simp only [keepSlots,List.getElem?_cons_succ] at h
   rcases ih h with h | h
   ·exact .inl h
   ·right;simpa using h
theorem keepSlots_length{ks:List Nat}:∀ {l:List SV} {i:Nat},(keepSlots l i ks).length=l.length:=by
 intro l
 induction l with
 | nil=>intro i;rfl
 | cons y l ih=>intro i;simp [keepSlots,ih]
theorem wk_slots{s:S}(ks:List Nat):Wk P s { s with t:=keepSlots s.t 0 ks }:=by
 intro B E a w hs
 refine ⟨E,⟨hs.core,by rw [keepSlots_length];exact hs.size,hs.defers,fun k x hk=>?_⟩,rfl,rfl,fun _ _ h=>h⟩
 rcases keepSlots_get hk with rfl | h
 ·trivial
 ·exact hs.slot k x h
def C.says(n:Nat):C→Bool
 | .ptr k _=>Nat.beq k n
 | .row k _=>Nat.beq k n
 | .rel k _ _ _ _=>Nat.beq k n
 | .oclo _ _ caps=>caps.any fun p=>Nat.beq p.1 n
 | .omap k=>Nat.beq k n
 | .yld k=>Nat.beq k n
 | _=>false
def CV.says(n:Nat):CV→Bool
 | .c x=>x.says n
 | .agg _=>false
 | .pagg cs=>cs.any (C.says n)
def SB.says(n:Nat):SB→Bool
 | .v x=>x.says n
 | .tup xs=>xs.any (CV.says n)
def SV.says(n:Nat):SV→Bool
 | .junk=>false
 | .b x=>x.says n
 | .may _ x=>x.says n
 | .pin _ x=>x.says n
def MO.says(n:Nat):MO→Bool
 | .pcells cs=>cs.any (C.says n)
 | .tcells _ cs=>cs.any (C.says n)
 | _=>false
def mSays(n:Nat):List (Option MO)→Nat→Bool
 | [],_=>false
 | x :: r,k=>(match x with | some o=>!(Nat.beq k n)&&o.says n | none=>false)||mSays n r (k+1)
def Env.drop(E:Env)(n:Nat):Env:=
 {K:=E.K,cel:=fun k=>if k=n then none else E.cel k,rw:=fun k=>if k=n then none else E.rw k,mp:=fun k=>if k=n then none else E.mp k,c:=E.c }
theorem relP_drop{n k off:Nat}{u:Value}(hk:k≠n)(h:RelP E k off u):RelP (E.drop n) k off u:=by
 obtain ⟨b,hb,hu⟩:=h
 exact ⟨b,by simp [Env.drop,hk,hb],hu⟩
theorem rel_drop{n:Nat}{c:C}{u:Value}(hc:c.says n=false)(h:Rel E c u):Rel (E.drop n) c u:=by
 cases c with
 | ptr k off=>exact relP_drop (fun e=>by simp [C.says,e] at hc) h
 | row k l =>
  have hk:k≠n:=fun e=>by simp [C.says,e] at hc
  obtain ⟨hd,len,h1,h2⟩:=h
  exact ⟨hd,len,by simp [Env.drop,hk,h1],h2⟩
 | rel k l sz i off =>
  have hk:k≠n:=fun e=>by simp [C.says,e] at hc
  obtain ⟨hd,len,h1,h2⟩:=h
  exact ⟨hd,len,by simp [Env.drop,hk,h1],h2⟩
 | oclo bd fn caps =>
  obtain ⟨vs,hu,hs,hp⟩:=h
  refine ⟨vs,hu,hs,fun j hj=>relP_drop (fun e=>?_) (hp j hj)⟩
  simp only [C.says] at hc
  rw [List.any_eq_false] at hc
  have:=hc (caps.getD j (0,0)) (by simp [gE,hj])
  exact this (by rw [e];simp)
 | omap k =>
  have hk:k≠n:=fun e=>by simp [C.says,e] at hc
  obtain ⟨b,h1,h2⟩:=h
  exact ⟨b,by simp [Env.drop,hk,h1],h2⟩
 | _=>exact h
theorem any_getD_false{α:Type}{p:α→Bool}{l:List α}{d:α}(h:l.any p=false)(j:Nat)(hj:j<l.length):p (l.getD j d)=false:=by
 rw [List.any_eq_false] at h
 have:=h (l.getD j d) (by simp [gE,hj])
 simpa using this
theorem relCV_drop{n:Nat}{c:CV}{u:Value}(hc:c.says n=false)(h:RelCV E c u):RelCV (E.drop n) c u:=by
 cases c with
 | c x=>exact ⟨rel_drop hc h.1,h.2⟩
 | agg cs=>exact h
 | pagg cs =>
  obtain ⟨arr,hu,hs,hr⟩:=h
  exact ⟨arr,hu,hs,fun j hj=>⟨rel_drop (any_getD_false hc j hj) (hr j hj).1,(hr j hj).2⟩⟩
theorem relSB_drop{n:Nat}{c:SB}{u:Value}(hc:c.says n=false)(h:RelSB E c u):RelSB (E.drop n) c u:=by
 cases c with
 | v x=>exact relCV_drop hc h
 | tup xs =>
  obtain ⟨vs,hu,hs,hr⟩:=h
  exact ⟨vs,hu,hs,fun j hj=>relCV_drop (any_getD_false hc j hj) (hr j hj)⟩
theorem relSV_drop{n:Nat}{g:List (Option Bool)}{c:SV}{u:Value}(hc:c.says n=false)(h:RelSV E g c u):RelSV (E.drop n) g c u:=by
 cases c with
 | junk=>trivial
 | b x=>exact relSB_drop hc h
 | may p x=>exact ⟨fun hp=>relSB_drop hc (h.1 hp),h.2⟩
 | pin k x=>exact ⟨relSB_drop hc h.1,h.2⟩
theorem mSays_get{n:Nat}:∀ {l:List (Option MO)} {i k:Nat} {o:MO},mSays n l i=false→l[k]?=some (some o)→i+k≠n→o.says n=false:=by
 intro l
 induction l with
 | nil=>intro i k o _ h;simp at h
 | cons x l ih =>
  intro i k o h hk hne
  simp only [mSays,Bool.or_eq_false_iff] at h
  cases k with
  | zero =>
   simp at hk
   subst hk
   have h1:=h.1
   simp only [Bool.and_eq_false_iff] at h1
   rcases h1 with h1 | h1
   ·simp at h1;omega
   ·exact h1
  | succ k=>exact ih h.2 (by simpa using hk) (by omega)
theorem holds_drop{n k b:Nat}(h:(E.drop n).holds k b):k≠n∧E.holds k b:=by
 rcases h with h | h | ⟨hd,len,h,h'⟩
 ·simp only [Env.drop] at h
  split at h
  ·cases h
  ·rename_i hk;exact ⟨hk,.inl h⟩
 ·simp only [Env.drop] at h
  split at h
  ·cases h
  ·rename_i hk;exact ⟨hk,.inr (.inl h)⟩
 ·simp only [Env.drop] at h
  split at h
  ·cases h
  ·rename_i hk;exact ⟨hk,.inr (.inr ⟨hd,len,h,h'⟩)⟩
theorem mrel_drop{n k:Nat}{o:MO}(hk:k≠n)(ho:o.says n=false)(h:MRel E w k o):MRel (E.drop n) w k o:=by
 cases o with
 | cells cs=>obtain ⟨b,arr,T,h1,h2,h3⟩:=h;exact ⟨b,arr,T,by simp [Env.drop,hk,h1],h2,h3⟩
 | pcells cs =>
  obtain ⟨b,arr,T,h1,h2,h3,h4⟩:=h
  exact ⟨b,arr,T,by simp [Env.drop,hk,h1],h2,h3,fun j hj=>⟨rel_drop (any_getD_false ho j hj) (h4 j hj).1,(h4 j hj).2⟩⟩
 | tcells T cs =>
  obtain ⟨b,arr,h1,h2,h0,h3,h4⟩:=h
  exact ⟨b,arr,by simp [Env.drop,hk,h1],h2,h0,h3,fun j hj=>⟨rel_drop (any_getD_false ho j hj) (h4 j hj).1,(h4 j hj).2⟩⟩
 | row e sz css=>obtain ⟨h1,h2,hd,xs,h3,h4⟩:=h;exact ⟨h1,h2,hd,xs,by simp [Env.drop,hk,h3],h4⟩
 | omap kagg agg ents=>obtain ⟨b,es,h1,h2,h3⟩:=h;exact ⟨b,es,by simp [Env.drop,hk,h1],h2,h3⟩
 | gone=>obtain ⟨hd,len,h1,h2⟩:=h;exact ⟨hd,len,by simp [Env.drop,hk,h1],h2⟩
 | cnt i xs k=>exact h
 | bag e sz css=>obtain ⟨css',hp,h1,h2,hd,xs,h3,h4⟩:=h;exact ⟨css',hp,h1,h2,hd,xs,by simp [Env.drop,hk,h3],h4⟩
theorem core_drop{m:List (Option MO)}(n:Nat)(hm:mSays n m 0=false)(hc:Core B E m w):Core B (E.drop n) (m.set n none) w:=
 {know:=hc.know
  laid:=hc.laid
  base:=hc.base
  nk:=hc.nk
  mem:=fun k o hk=>by
   have hkn:k≠n:=fun e=>by
    rcases getElem?_set_some hk with ⟨_,h⟩ | ⟨h,_⟩
    ·cases h
    ·exact h e
   rw [getElem?_set_ne hkn] at hk
   exact mrel_drop hkn (mSays_get hm hk (by omega)) (hc.mem k o hk)
  cel:=fun k b hk=>by
   simp only [Env.drop] at hk
   split at hk
   ·cases hk
   ·rename_i hkn
    rw [getElem?_set_ne hkn]
    exact hc.cel k b hk
  rw:=fun k x hk=>by
   simp only [Env.drop] at hk
   split at hk
   ·cases hk
   ·rename_i hkn
    rw [getElem?_set_ne hkn]
    exact hc.rw k x hk
  mp:=fun k b hk=>by
   simp only [Env.drop] at hk
   split at hk
   ·cases hk
   ·rename_i hkn
    rw [getElem?_set_ne hkn]
    exact hc.mp k b hk
  inj:=fun k k' b h h'=>hc.inj k k' b (holds_drop h).2 (holds_drop h').2
  apart:=fun k b h=>hc.apart k b (holds_drop h).2
  new:=fun k b h=>hc.new k b (holds_drop h).2
  lt:=fun k b h=>hc.lt k b (holds_drop h).2
  os:=hc.os
  tape:=hc.tape
  output:=hc.output
  size:=hc.size
  old:=hc.old
  j:=hc.j
  y:=hc.y
  dsk:=hc.dsk
  dsn:=hc.dsn }
def dropName(s:S)(n:Nat):Option S:=
 if (s.t.any (SV.says n))||mSays n s.m 0 then none else some { s with m:=s.m.set n none }
theorem wk_drop{s s':S}{n:Nat}(h:dropName s n=some s'):Wk P s s':=by
 unfold dropName at h
 split at h
 ·cases h
 ·rename_i hn
  cases h
  simp only [Bool.or_eq_true,not_or,Bool.not_eq_true] at hn
  intro B E a w hs
  refine ⟨E.drop n,⟨core_drop n hn.2 hs.core,hs.size,hs.defers,fun k x hk=>?_⟩,rfl,rfl,fun k b h=>(holds_drop h).2⟩
  have hx:x.says n=false:=by
   have:=hn.1
   rw [List.any_eq_false] at this
   simpa using this x (List.mem_of_getElem? hk)
  exact relSV_drop hx (hs.slot k x hk)
def dropNames(s:S):List Nat→Option S
 | []=>some s
 | n :: ns=>match dropName s n with
  | some s'=>dropNames s' ns
  | none=>none
theorem wk_drops:∀ {ns:List Nat} {s s':S},dropNames s ns=some s'→Wk P s s':=by
 intro ns
 induction ns with
 | nil=>intro s s' h;simp only [dropNames] at h;cases h;exact Wk.refl s
 | cons n ns ih =>
  intro s s' h
  simp only [dropNames] at h
  split at h
  ·rename_i s1 h1
   exact (wk_drop h1).trans (ih h)
  ·cases h
def S.slim(s:S)(ks ns:List Nat):Option S:=dropNames { s with t:=keepSlots s.t 0 ks } ns
theorem wk_slim{s s':S}{ks ns:List Nat}(h:s.slim ks ns=some s'):Wk P s s':=(wk_slots ks).trans (wk_drops h)
def Run(P:Program)(B:Base P)(s:S):List Code→(Exit→S→Prop)→Prop
 | [],Q=>Q .normal s
 | c :: cs,Q=>Tri P B s c (thenQ (fun s'=>Run P B s' cs Q) Q)
theorem run_tri{s:S}{c:Code}{Q:Exit→S→Prop}(h:Run P B s [c] Q):Tri P B s c Q:=tri_mono h fun e s' hq=>by cases e<;>exact hq
theorem run_reg{s:S}{id:Nat}{ops:Array Oper}{draw:Bool}{cs:List Code}{Q:Exit→S→Prop}(hs:List (Nat×Hint))(hmix:P.follows .mixedOrders=true)(hq:Asked (evalRegion P ops draw hs s)) 
  (h:Run P B (nextS (evalRegion P ops draw hs s)) cs Q) (hn:elderAny hs=false:=by rfl):Run P B s (.region id ops draw :: cs) Q:=tri_reg hs (fun he=>by rw [hn] at he;cases he) hmix hq h
theorem run_seq{s:S}{x y:Code}{cs:List Code}{Q:Exit→S→Prop}(h:Run P B s (x :: y :: cs) Q):Run P B s (.seq x y :: cs) Q:=
 tri_seq (tri_mono h fun e s' hq=>by cases e<;>exact hq)
theorem run_cond{s:S}{c:Operand}{x y:Code}{cs:List Code}{Q:Exit→S→Prop}(b:Bool)(hc:s.ev [] c=some (.v (.c (.bool b))))(ht:b=true→Run P B s (x :: cs) Q)(hf:b=false→Run P B s (y :: cs) Q):
  Run P B s (.cond c x y :: cs) Q:=tri_cond b hc ht hf
theorem run_skip{s:S}{cs:List Code}{Q:Exit→S→Prop}(h:Run P B s cs Q):Run P B s (.skip :: cs) Q:=tri_skip h
theorem run_label{s:S}{l:Nat}{cs:List Code}{Q:Exit→S→Prop}(h:Run P B s cs Q):Run P B s (.label l :: cs) Q:=tri_label h
theorem run_ret{s:S}{cs:List Code}{Q:Exit→S→Prop}(h:Q .ret s):Run P B s (.ret :: cs) Q:=tri_ret h
theorem run_exit{s:S}{id:Nat}{cs:List Code}{Q:Exit→S→Prop}(h:Q (.exit id) s):Run P B s (.exit id :: cs) Q:=tri_exit h
theorem run_nil{s:S}{Q:Exit→S→Prop}(h:Q .normal s):Run P B s [] Q:=h
def blockR(P:Program)(B:Base P)(id:Nat)(cs:List Code)(Q:Exit→S→Prop):Exit→S→Prop
 | .normal,s=>Run P B s cs Q
 | .exit k,s=>match Nat.beq k id with
  | true=>Run P B s cs Q
  | false=>Q (.exit k) s
 | e,s=>Q e s
theorem run_block{s:S}{id:Nat}{c:Code}{cs:List Code}{Q:Exit→S→Prop}(h:Run P B s [c] (blockR P B id cs Q)):Run P B s (.block id c :: cs) Q:=by
 refine tri_block (tri_mono (run_tri h) ?_)
 intro e s' hq
 cases e with
 | exit k =>
  simp only [blockR] at hq
  simp only [blockQ,thenQ]
  by_cases hk:k=id
  ·subst hk
   rw [if_pos rfl]
   rw [show Nat.beq k k=true from Nat.beq_refl k] at hq
   exact hq
  ·rw [if_neg hk]
   rw [show Nat.beq k id=false from (by cases h:Nat.beq k id with
    | false=>rfl
    | true=>exact absurd (Nat.eq_of_beq_eq_true h) hk)] at hq
   exact hq
 | _=>exact hq
theorem blockR_normal{s:S}{id:Nat}{cs:List Code}{Q:Exit→S→Prop}(h:Run P B s cs Q):blockR P B id cs Q .normal s:=h
theorem blockR_exit{s:S}{id:Nat}{cs:List Code}{Q:Exit→S→Prop}(h:Run P B s cs Q):blockR P B id cs Q (.exit id) s:=by
 simp only [blockR,show Nat.beq id id=true from Nat.beq_refl id]
 exact h
theorem blockR_out{s:S}{id k:Nat}{cs:List Code}{Q:Exit→S→Prop}(hk:Nat.beq k id=false)(h:Q (.exit k) s):blockR P B id cs Q (.exit k) s:=by
 simp only [blockR,hk]
 exact h
theorem blockR_ret{s:S}{id:Nat}{cs:List Code}{Q:Exit→S→Prop}(h:Q .ret s):blockR P B id cs Q .ret s:=h
def loopR(P:Program){σ:Type}(I:σ→S)(R:σ→Prop)(μ:σ→Nat)(x:σ)(Q:Exit→S→Prop):Exit→S→Prop
 | .normal,s=>∃ y,Wk P s (I y)∧R y∧μ y<μ x
 | e,s=>Q e s
theorem loopR_next{σ:Type}{I:σ→S}{R:σ→Prop}{μ:σ→Nat}{x:σ}{Q:Exit→S→Prop}{s:S}(y:σ)(hw:Wk P s (I y))(hR:R y)(hm:μ y<μ x):loopR P I R μ x Q .normal s:=⟨y,hw,hR,hm⟩
theorem loopR_exit{σ:Type}{I:σ→S}{R:σ→Prop}{μ:σ→Nat}{x:σ}{Q:Exit→S→Prop}{s:S}{k:Nat}(h:Q (.exit k) s):loopR P I R μ x Q (.exit k) s:=h
theorem loopR_ret{σ:Type}{I:σ→S}{R:σ→Prop}{μ:σ→Nat}{x:σ}{Q:Exit→S→Prop}{s:S}(h:Q .ret s):loopR P I R μ x Q .ret s:=h
theorem run_loop{σ:Type}{s:S}{c:Code}{cs:List Code}{Q:Exit→S→Prop}(I:σ→S)(R:σ→Prop)(μ:σ→Nat)(x:σ)(hw:Wk P s (I x))(h0:R x)(round:∀ x,R x→Run P B (I x) [c] (loopR P I R μ x Q)):Run P B s (.loop c :: cs) Q:=by
 refine tri_weaken hw ?_
 intro E a w hs b k cs' hro hb hr
 have key:∀ (n:Nat) (x:σ),μ x=n→R x→∀ (E:Env) (a:Act) (w:World),Sim B E (I x) a w →
   ∃ e a' w',(∃ E' s',(thenQ (fun s'=>Run P B s' cs Q) Q) e s'∧Sim B E' s' a' w')∧ArrivesIn (Machine.fenced P (FB B.r)) P (lone (b.atR a (.code c :: .inLoop c :: k)) cs' w) b k cs' e a' w':=by
  intro n
  induction n using Nat.strongRecOn with
  | _ n ih =>
   intro x hn hR E a w hs
   obtain ⟨e,a1,w1,⟨E1,s1,hq1,hs1⟩,harr⟩:=(run_tri (round x hR)) E a w hs b (.inLoop c :: k) cs' hro hb hr
   cases e with
   | normal =>
    obtain ⟨y,hwy,hRy,hlt⟩:=hq1
    obtain ⟨E2,hs2,_⟩:=hwy _ _ _ _ hs1
    obtain ⟨e2,a2,w2,hq2,harr2⟩:=ih (μ y) (hn▸hlt) y rfl hRy E2 a1 w1 hs2
    exact ⟨e2,a2,w2,hq2,.of_steps (StepsIn.trans harr (.one (fenced_calm hb hr rfl) stepR_inLoop)) harr2⟩
   | exit id=>exact ⟨_,a1,w1,⟨E1,s1,hq1,hs1⟩,.pass (x:=.inLoop c) rfl (fun _ _=>.inl (by simp)) harr⟩
   | goto l=>exact ⟨_,a1,w1,⟨E1,s1,hq1,hs1⟩,.pass (x:=.inLoop c) rfl (fun _ _=>.inl (by simp)) harr⟩
   | ret=>exact ⟨_,a1,w1,⟨E1,s1,hq1,hs1⟩,.pass (x:=.inLoop c) rfl (fun _ _=>.inl (by simp)) harr⟩
   | panic ch=>exact ⟨_,a1,w1,⟨E1,s1,hq1,hs1⟩,.pass (x:=.inLoop c) rfl (fun _ _=>.inl (by simp)) harr⟩
   | outgrown=>exact ⟨_,a1,w1,⟨E1,s1,hq1,hs1⟩,.pass (x:=.inLoop c) rfl (fun _ _=>.inl (by simp)) harr⟩
 obtain ⟨e,a',w',hq,harr⟩:=key _ x rfl h0 E a w hs
 exact ⟨e,a',w',hq,.of_steps (.one (fenced_calm hb hr rfl) stepR_loop) harr⟩
theorem run_weaken{s s':S}{cs:List Code}{Q:Exit→S→Prop}(h:Wk P s s')(ht:Run P B s' cs Q)(hne:cs≠[]):Run P B s cs Q:=by
 cases cs with
 | nil=>exact absurd rfl hne
 | cons c cs=>exact tri_weaken h ht
def initS(n:Nat)(args:List CV):S:={ t:=args.map (fun x=>.b (.v x))++List.replicate (n - args.length) .junk,m:=List.replicate n none,g:=[] }
def resCV(P:Program)(s:S):ResultVar→Option CV
 | .tmp t=>match s.t[t]? with
  | some (.b (.v x))=>match x.isImm with
   | true=>some x
   | false=>none
  | _=>none
 | .cell c t=>match s.t[c]? with
  | some (.b (.v (.c (.ptr n off))))=>match s.m[n]? with
   | some (some (.cells cs))=>match ckPart P t off cs.length with
    | true=>some (part P false t cs off)
    | false=>none
   | _=>none
  | some (.pin _ (.v (.c (.ptr n off))))=>match s.m[n]? with
   | some (some (.cells cs))=>match ckPart P t off cs.length with
    | true=>some (part P false t cs off)
    | false=>none
   | _=>none
  | _=>none
def resAll(P:Program)(s:S):List ResultVar→Option (List CV)
 | []=>some []
 | r :: rs=>match resCV P s r,resAll P s rs with
  | some x,some xs=>some (x :: xs)
  | _,_=>none
def resOf(P:Program)(s:S)(rs:List ResultVar):Option SB:=
 match resAll P s rs with
 | some [x]=>some (.v x)
 | some xs=>some (.tup xs)
 | none=>none
def Ends(P:Program)(rs:List ResultVar)(r:SB)(e:Exit)(s:S):Prop:=(e=.ret∨e=.normal)∧resOf P s rs=some r
theorem part_imm{t:TypeId}{arr:Array Value}{cs:List C}{off:Nat}(ht:tyOk P t=true)(hoff:off+sizeT P t≤cs.length)(hr:RelLK E.K cs arr):
  RelCVK E.K (part P false t cs off) (if isAggT P t then .agg (arr.extract off (off+sizeT P t)) else arr.getD off undef):=by
 have h:=part_k (E:=E) (base:=0) (arr:=arr) ht hoff (by have:=hr.1;omega) (fun j hj=>by simpa using hr.2 j hj)
 simp only [Nat.zero_add] at h
 revert h
 unfold part
 cases isAggT P t with
 | true=>exact fun h=>h
 | false =>
  simp only [Bool.false_eq_true,if_false]
  intro h
  have h1:=tyOk_pos ht
  exact hr.2 off (by omega)
theorem resCV_run{s:S}{a:Act}{r:ResultVar}{x:CV}{w':World}(hs:Sim B E s a w)(hw:∀ n b,E.holds n b→w'.heap[b]?=w.heap[b]?)(h:resCV P s r=some x):
  ∃ v,((match r with | .tmp t=>pure (a.tmps.getD t undef) | .cell c t=>do loadVar t (← asAddr (a.tmps.getD c undef)):Sem Value)).run P w'=.ok v w'∧RelCVK E.K x v:=by
 have key:∀ (n off t:Nat) (u:Value),Rel E (.ptr n off) u→∀ cs,s.m[n]?=some (some (.cells cs))→ckPart P t off cs.length=true→x=part P false t cs off →
   ∃ v,((do loadVar t (← asAddr u):Sem Value)).run P w'=.ok v w'∧RelCVK E.K x v:=by
  intro n off t u hu cs hm hck hx
  obtain ⟨b,arr,T,hb,hh,hrel⟩:=hs.core.mem n _ hm
  obtain ⟨b',hb',rfl⟩:=hu
  rw [hb] at hb'
  cases hb'
  obtain ⟨h1,h2⟩:=ckPart_spec hck
  refine ⟨_,?_,by rw [hx];exact part_imm h2 h1 hrel⟩
  simp only [asAddr,Sem.run_bind,Sem.run_pure,Result.andThen_ok]
  exact run_loadVar_at h2 ((hw n b (.inl hb)).trans hh) (by have:=hrel.1;omega)
 cases r with
 | tmp t =>
  simp only [resCV] at h
  split at h
  ·rename_i y hy
   split at h
   ·rename_i himm
    cases h
    exact ⟨_,rfl,RelCV.imm himm (hs.slot t _ hy)⟩
   ·cases h
  ·cases h
 | cell c t =>
  simp only [resCV] at h
  split at h
  ·rename_i n off hy
   split at h
   ·rename_i cs hm
    split at h
    ·rename_i hck
     cases h
     exact key n off t _ (hs.slot c _ hy).1 cs hm hck rfl
    ·cases h
   ·cases h
  ·rename_i k n off hy
   split at h
   ·rename_i cs hm
    split at h
    ·rename_i hck
     cases h
     exact key n off t _ (hs.slot c _ hy).1.1 cs hm hck rfl
    ·cases h
   ·cases h
  ·cases h
theorem results_all{s:S}{a:Act}{w':World}(hs:Sim B E s a w)(hw:∀ n b,E.holds n b→w'.heap[b]?=w.heap[b]?):∀ {rs:List ResultVar} {xs:List CV},resAll P s rs=some xs →
  ∃ vs:List Value,(rs.mapM fun | .tmp t=>pure (a.tmps.getD t undef) | .cell c t=>do loadVar t (← asAddr (a.tmps.getD c undef)):Sem (List Value)).run P w'=.ok vs w'∧vs.length=xs.length∧xs.length=rs.length ∧
   ∀ j,j<xs.length→RelCVK E.K (xs.getD j (.c .junk)) (vs.getD j undef):=by
 intro rs
 induction rs with
 | nil=>intro xs h;simp only [resAll] at h;cases h;exact ⟨[],by simp,rfl,rfl,fun j hj=>by simp at hj⟩
 | cons r rs ih =>
  intro xs h
  simp only [resAll] at h
  split at h
  ·rename_i x ys hx hy
   cases h
   obtain ⟨vs,h1,h2,h3,h4⟩:=ih hy
   obtain ⟨v,hv,hrel⟩:=resCV_run hs hw hx
   refine ⟨v :: vs,?_,by simp [h2],by simp [h3],fun j hj=>?_⟩
   ·rw [List.mapM_cons,Sem.run_bind]
    refine (congrArg (fun z=>Result.andThen z _) (?_:_=Result.ok v w')).trans ?_
    ·cases r<;>exact hv
    ·simp only [Result.andThen_ok,Sem.run_bind,h1,Sem.run_pure]
   ·cases j with
    | zero=>exact hrel
    | succ j =>
     have:=h4 j (by simpa using hj)
     simpa [gE] using this
  ·cases h
theorem results_run{s:S}{a:Act}{fn:Func}{r:SB}{w':World}(hs:Sim B E s a w)(hw:∀ n b,E.holds n b→w'.heap[b]?=w.heap[b]?)(hr:resOf P s fn.results.toList=some r):∃ v,(results fn a.tmps).run P w'=.ok v w'∧RelSBK E.K r v:=by
 unfold resOf at hr
 split at hr
 ·rename_i x hx
  cases hr
  obtain ⟨vs,h1,h2,h3,h4⟩:=results_all hs hw hx
  match vs,h2,h1,h4 with
  | [v],_,h1,h4 =>
   refine ⟨v,?_,h4 0 (by simp)⟩
   unfold results
   rw [Array.mapM_eq_mapM_toList]
   simp only [Sem.run_bind,Sem.run_map]
   erw [h1]
   simp
 ·rename_i xs hne hx
  cases hr
  obtain ⟨vs,h1,h2,h3,h4⟩:=results_all hs hw hx
  have hne1:vs.toArray.size≠1:=by
   simp only [List.size_toArray,h2]
   intro h
   match xs,h with
   | [x],_=>exact hne x rfl
  refine ⟨.tuple vs.toArray,?_,vs.toArray,rfl,by simpa using h2,fun j hj=>by rw [getElem?_toArray_getD];exact h4 j hj⟩
  unfold results
  rw [Array.mapM_eq_mapM_toList]
  simp only [Sem.run_bind,Sem.run_map]
  erw [h1]
  simp only [Result.andThen_ok,dif_neg hne1,Sem.run_pure]
 ·cases hr
theorem initS_get{n:Nat}{args:List CV}{k:Nat}{x:SV}(h:(initS n args).t[k]?=some x):x=.junk∨(k<args.length∧x=.b (.v (args.getD k (.c .junk)))):=by
 simp only [initS] at h
 by_cases hk:k<args.length
 ·rw [List.getElem?_append_left (by simpa using hk)] at h
  simp only [List.getElem?_map,Option.map_eq_some_iff] at h
  obtain ⟨y,hy,rfl⟩:=h
  right
  exact ⟨hk,by simp [gE,hy]⟩
 ·rw [List.getElem?_append_right (by simpa using Nat.le_of_not_lt hk)] at h
  rw [List.getElem?_replicate] at h
  split at h
  ·left;exact (Option.some.inj h).symm
  ·cases h
theorem replicate_none{n k:Nat}{o:MO}(h:(List.replicate n (none:Option MO))[k]?=some (some o)):False:=by
 rw [List.getElem?_replicate] at h
 split at h<;>cases h
theorem RelK.cut{K K':Know}(hK:∀ b arr T fz,K b=some (.cells arr T fz)→K' b=some (.cells arr T fz))(hM:∀ b es clock,K b=some (.map es clock)→K' b=some (.map es clock)){c:C}{u:Value}(h:RelK K c u):RelK K' c u:=by
 induction h with
 | junk u=>exact .junk u
 | nil=>exact .nil
 | int k n=>exact .int k n
 | bool b=>exact .bool b
 | str s hs=>exact .str s hs
 | lit v hv=>exact .lit v hv
 | lst0 sz f=>exact .lst0 sz f
 | lst1 sz f a=>exact .lst1 sz f a
 | lst sz n f b off cap arr T fz g hKb hg hl _ ho hcap hmx ih=>exact .lst sz n f b off cap arr T fz g (hK _ _ _ _ hKb) hg hl ih ho hcap hmx
 | kel sz n f i o b off arr T fz g hKb hg hl _ ho hi ih=>exact .kel sz n f i o b off arr T fz g (hK _ _ _ _ hKb) hg hl ih ho hi
 | kptr cs off b arr T fz hKb hs _ ho ih=>exact .kptr cs off b arr T fz (hK _ _ _ _ hKb) hs ih ho
 | clo fn caps vs hs _ ho ih=>exact .clo fn caps vs hs ih ho
 | meth fn fs vs hs _ ho ih=>exact .meth fn fs vs hs ih ho
 | kmap kagg agg ents b es g hKb hs hst hg hkl _ hko hka hl _ ho ha ih1 ih2=>exact .kmap kagg agg ents b es g (hM _ _ _ hKb) hs hst hg hkl ih1 hko hka hl ih2 ho ha
def Know.but(K:Know)(ds:List Nat):Know:=fun b=>if ds.any (Nat.beq b) then none else K b
theorem Know.but_none{K:Know}{ds:List Nat}{b:Nat}(h:b∈ds):K.but ds b=none:=by
 have:ds.any (Nat.beq b)=true:=List.any_eq_true.2 ⟨b,h,Nat.beq_refl b⟩
 simp [Know.but,this]
theorem Know.but_other{K:Know}{ds:List Nat}{b:Nat}(h:b∉ds):K.but ds b=K b:=by
 have:ds.any (Nat.beq b)=false:=List.any_eq_false.2 fun x hx hb=>h (by rw [Nat.eq_of_beq_eq_true hb];exact hx)
 simp [Know.but,this]
theorem RelK.but{K:Know}{ds:List Nat}(hd:∀ D,D∈ds→K D=some (.deferred (some []))){c:C}{u:Value}(h:RelK K c u):RelK (K.but ds) c u:=by
 refine h.cut (fun b arr T fz hb=>?_) (fun b es clock hb=>?_)
 ·rw [Know.but_other]
  ·exact hb
  ·intro hm;rw [hd b hm] at hb;cases hb
 ·rw [Know.but_other]
  ·exact hb
  ·intro hm;rw [hd b hm] at hb;cases hb
theorem RelLK.but{K:Know}{ds:List Nat}(hd:∀ D,D∈ds→K D=some (.deferred (some []))){cs:List C}{arr:Array Value}(h:RelLK K cs arr):RelLK (K.but ds) cs arr:=
 ⟨h.1,fun j hj=>⟨(h.2 j hj).1.but hd,(h.2 j hj).2⟩⟩
theorem RelCVK.but{K:Know}{ds:List Nat}(hd:∀ D,D∈ds→K D=some (.deferred (some []))){x:CV}{u:Value}(h:RelCVK K x u):RelCVK (K.but ds) x u:=by
 cases x with
 | c x=>exact ⟨h.1.but hd,h.2⟩
 | agg cs=>obtain ⟨arr,hu,hl⟩:=h;exact ⟨arr,hu,hl.but hd⟩
 | pagg cs=>exact h.elim
theorem RelSBK.but{K:Know}{ds:List Nat}(hd:∀ D,D∈ds→K D=some (.deferred (some []))){x:SB}{u:Value}(h:RelSBK K x u):RelSBK (K.but ds) x u:=by
 cases x with
 | v x=>exact RelCVK.but hd h
 | tup xs=>obtain ⟨vs,hu,hs,hl⟩:=h;exact ⟨vs,hu,hs,fun j hj=>(hl j hj).but hd⟩
theorem leaves_marks{fn:Func}{tmps:Array Value}{R:Ending→World→Prop}:∀ (ds:List Nat) (w:World),ds.Nodup→(∀ D,D∈ds→w.heap[D]?=some (.deferred (some []))) →
  (∀ w',w'.heap.size=w.heap.size→w'.os=w.os→w'.tape=w.tape→w'.output=w.output→(∀ b,b∉ds→w'.heap[b]?=w.heap[b]?)→∃ v,(results fn tmps).run P w'=.ok v w'∧R (.returned v) w') →
  LeavesInM (FB none) 0 P fn tmps R (ds.map markOf) .returning w:=by
 intro ds
 induction ds with
 | nil=>intro w _ _ h;exact h w rfl rfl rfl rfl (fun _ _=>rfl)
 | cons D ds ih =>
  intro w hnd hd h
  obtain ⟨hD,hnd'⟩:=List.nodup_cons.1 hnd
  refine ⟨by simp,.inl ⟨D,_,rfl,run_takeDeferred (hd D List.mem_cons_self),?_⟩⟩
  refine ih _ hnd' (fun D' hD'=>?_) (fun w' h1 h2 h3 h4 h5=>?_)
  ·rw [World.putObj_heap_other (fun e=>hD (by rw [← e];exact hD'))]
   exact hd D' (List.mem_cons_of_mem _ hD')
  ·refine h w' (by rw [h1];simp) h2 h3 h4 (fun b hb=>?_)
   rw [h5 b (fun hm=>hb (List.mem_cons_of_mem _ hm)),World.putObj_heap_other (fun e=>hb (by rw [e];exact List.mem_cons_self))]
structure Base.Fn (B:Base P):Prop where
 r:B.r=none
 fn:B.fn=true
 W:∀ b,¬ B.W b
def funBase(P:Program)(K:Know)(w:World):Base P:=
 {r:=none,fn:=true,N:=w.heap.size,W:=fun _=>False,l:=0,xs:=[],k:=0,fix:=fun _=>undef,J:=fun _ K0 w0=>K0=K∧w0=w,fnN:=fun _ _ _ w' h=>by rw [h.2];exact Nat.le_refl _,yields:=fun _ _ _ _ _ _ _ _ _ _ _ h=>by simp at h }
theorem call_leave{fn:Func}{r:SB}{K:Know}{E':Env}{s':S}{a':Act}{w':World}(hK:Knows K w)(hs':Sim B E' s' a' w')(hJK:E'.c.K0=K)(hJw:E'.c.w0=w)(hN:w.heap.size≤B.N)(hW:∀ b,¬ B.W b)(hres:resOf P s' fn.results.toList=some r):
  LeavesInM (FB none) 0 P fn a'.tmps (fun e w'=>∃ K' v,K.le K'∧(∀ b,b<w.heap.size→K b=none→K' b=none)∧Knows K' w'∧Below w.heap.size w w'∧e=.returned v∧RelSBK K' r v) (E'.c.ds.map markOf) .returning w':=by
 have hc:=hs'.core
 refine leaves_marks E'.c.ds w' hc.dsn (fun D hD=>hc.know _ _ (hc.dsk D hD).1) (fun w2 h1 h2 h3 h4 h5=>?_)
 have hheld:∀ n b,E'.holds n b→w2.heap[b]?=w'.heap[b]?:=fun n b h=>h5 b (fun hm=>by
  have:=hc.apart n b h
  rw [(hc.dsk b hm).1] at this;cases this)
 obtain ⟨v,hrun,hv⟩:=results_run hs' hheld hres
 refine ⟨v,hrun,E'.K.but E'.c.ds,v,fun b o hb=>?_,fun b hb hn=>?_,fun b o hb=>?_,?_,rfl,hv.but fun D hD=>(hc.dsk D hD).1⟩
 ·rw [Know.but_other]
  ·exact hc.base _ _ (by rw [hJK];exact hb)
  ·intro hm
   have h6:w.heap.size≤b:=(Nat.le_trans hN (hc.dsk b hm).2.1)
   have:=(Array.getElem?_eq_some_iff.1 (hK b o hb)).1
   omega
 ·by_cases hm:b∈E'.c.ds
  ·exact Know.but_none hm
  ·rw [Know.but_other hm]
   exact hc.nk b (by rw [hJw];exact hb) (by rw [hJK];exact hn)
 ·by_cases hm:b∈E'.c.ds
  ·rw [Know.but_none hm] at hb;cases hb
  ·rw [Know.but_other hm] at hb
   rw [h5 b hm];exact hc.know b o hb
 ·refine ⟨h2.trans (hc.os.trans (by rw [hJw])),h3.trans (hc.tape.trans (by rw [hJw])),h4.trans (hc.output.trans (by rw [hJw])),by rw [h1,← hJw];exact hc.size,fun b hb=>?_⟩
  rw [h5 b (fun hm=>by have h6:w.heap.size≤b:=(Nat.le_trans hN (hc.dsk b hm).2.1);omega)]
  have:=hc.old b (by rw [hJw];exact hb) (hW b)
  rw [this,hJw]
theorem fcall_of_tri{f:FuncId}{fn:Func}{c:Code}{args:List CV}{r:SB}(hf:P.funcs[f]?=some fn)(hb:fn.body=some c)(hname:(fn.name== "runtime.NumGoroutine")=false) 
  (ht:∀ B:Base P,B.Fn→Run P B (initS fn.ntmps args) [c] (Ends P fn.results.toList r)):FCall P f args r:=by
 refine ⟨⟨fn,hf,by rw [hb];rfl,hname⟩,?_⟩
 intro K w vs hKl hK hsz hrel
 have hsim:Sim (funBase P K w) { K:=K,cel:=fun _=>none,rw:=fun _=>none,mp:=fun _=>none,c:={ w0:=w,K0:=K,ds:=[],l:=0,i:=0,xs:=[],k:=0,fix:=fun _=>undef } } (initS fn.ntmps args)
   {tmps:=vs++Array.replicate (fn.ntmps - vs.size) undef,defers:=[] } w:=by
  refine ⟨?_,?_,rfl,fun k x hk=>?_⟩
  ·exact
   {know:=hK
    laid:=hKl
    base:=Know.le_refl _
    nk:=fun _ _ h=>h
    mem:=fun n o h=>(replicate_none h).elim
    cel:=fun n b h=>by cases h
    rw:=fun n x h=>by cases h
    mp:=fun n b h=>by cases h
    inj:=fun n n' b h=>by rcases h with h | h | ⟨_,_,h,_⟩<;>cases h
    apart:=fun n b h=>by rcases h with h | h | ⟨_,_,h,_⟩<;>cases h
    new:=fun n b h=>by rcases h with h | h | ⟨_,_,h,_⟩<;>cases h
    lt:=fun n b h=>by rcases h with h | h | ⟨_,_,h,_⟩<;>cases h
    os:=rfl
    tape:=rfl
    output:=rfl
    size:=Nat.le_refl _
    old:=fun _ _ _=>rfl
    j:=⟨rfl,rfl⟩
    y:=⟨rfl,rfl,rfl,rfl⟩
    dsk:=fun D hD=>by simp at hD
    dsn:=List.nodup_nil }
  ·simp [initS,hsz]
  ·rcases initS_get hk with rfl | ⟨hlt,rfl⟩
   ·trivial
   ·have e:(vs++Array.replicate (fn.ntmps - vs.size) undef).getD k undef=vs.getD k undef:=by
     have:k<vs.size:=by omega
     simp [Array.getElem?_append,this]
    show RelCV _ _ ((vs++Array.replicate (fn.ntmps - vs.size) undef).getD k undef)
    rw [e]
    exact RelCVK.rel (E:={ K:=K,cel:=fun _=>none,rw:=fun _=>none,mp:=fun _=>none,c:=_ }) (hrel k hlt)
 refine (callsIn_wide (n:=0)).1 (callsIn_of_wp_marks hf hb trivial ?_ rfl)
 refine wpIn_mono ((run_tri (ht (funBase P K w) ⟨rfl,rfl,fun _ h=>h⟩)) _ _ _ hsim) ?_
 rintro e a' w' ⟨E',s',⟨he,hres⟩,hs'⟩
 have hj:E'.c.K0=K∧E'.c.w0=w:=hs'.core.j
 have hleave:=call_leave (fn:=fn) hK hs' hj.1 hj.2 (Nat.le_refl _) (fun _ h=>h) hres
 rw [← List.append_nil (E'.c.ds.map markOf),← show a'.defers=E'.c.ds.map markOf++[] from hs'.defers] at hleave
 rcases he with rfl | rfl
 ·exact hleave
 ·exact hleave
end Go.Sym
namespace Go.Sym
open Go.RowKit
variable {P:Program} {B:Base P}
abbrev cI(n:Int):C:=.int .i64 n
abbrev vI(n:Int):CV:=.c (.int .i64 n)
abbrev vB(b:Bool):CV:=.c (.bool b)
def lookT(l:List (Nat×SV))(k:Nat):SV:=
 match l with
 | []=>.junk
 | (j,x) :: r=>match Nat.beq j k with
  | true=>x
  | false=>lookT r k
def lookM(l:List (Nat×MO))(k:Nat):Option MO:=
 match l with
 | []=>none
 | (j,x) :: r=>match Nat.beq j k with
  | true=>some x
  | false=>lookM r k
def tabT(l:List (Nat×SV)):Nat→Nat→List SV
 | 0,_=>[]
 | n+1,k=>lookT l k :: tabT l n (k+1)
def tabM(l:List (Nat×MO)):Nat→Nat→List (Option MO)
 | 0,_=>[]
 | n+1,k=>lookM l k :: tabM l n (k+1)
def mkS(n:Nat)(t:List (Nat×SV))(m:List (Nat×MO)):S:=⟨tabT t n 0,tabM m n 0,[]⟩
theorem run_cond_t{s:S}{c:Operand}{x y:Code}{cs:List Code}{Q:Exit→S→Prop}(b:Bool)(hc:s.ev [] c=some (.v (.c (.bool b))))(hb:b=true)(h:Run P B s (x :: cs) Q):Run P B s (.cond c x y :: cs) Q:=
 run_cond b hc (fun _=>h) (fun h'=>by rw [hb] at h';cases h')
theorem run_cond_f{s:S}{c:Operand}{x y:Code}{cs:List Code}{Q:Exit→S→Prop}(b:Bool)(hc:s.ev [] c=some (.v (.c (.bool b))))(hb:b=false)(h:Run P B s (y :: cs) Q):Run P B s (.cond c x y :: cs) Q:=
 run_cond b hc (fun h'=>by rw [hb] at h';cases h') (fun _=>h)
theorem ret_of{rs:List ResultVar}{r:SB}{s:S}(r':SB)(h:resOf P s rs=some r')(e:r'=r):Ends P rs r .ret s:=⟨.inl rfl,e▸h⟩
end Go.Sym
namespace Go.Sym
open Go.RowKit
variable {P:Program} {B:Base P} {E:Env} {w:World}
def stopN(k n:Nat):Nat:=match Nat.blt k n with
 | true=>k+1
 | false=>n
theorem stopN_lt{k n:Nat}(h:k<n):stopN k n=k+1:=by
 have:Nat.blt k n=true:=by simpa using h
 simp [stopN,this]
theorem stopN_eq(n:Nat):stopN n n=n:=by
 have:Nat.blt n n=false:=by
  cases h:Nat.blt n n with
  | false=>rfl
  | true=>exact absurd (Nat.lt_of_lt_of_le (Nat.le_of_ble_eq_true h) (Nat.le_refl _)) (Nat.lt_irrefl n)
 simp only [stopN,this]
structure Since (K:Know) (w:World) (K':Know) (w':World):Prop where
 le:K.le K'
 nk:∀ b,b<w.heap.size→K b=none→K' b=none
 know:Knows K' w'
 os:w'.os=w.os
 tape:w'.tape=w.tape
 output:w'.output=w.output
 size:w.heap.size≤w'.heap.size
 old:∀ b,b<w.heap.size→w'.heap[b]?=w.heap[b]?
theorem yieldAt_mono{F:Fence}{m:Nat}{l:Nat}{args:Array Value}{W:World}{R R':Ending→World→Prop}(h:YieldAt F m P l args W R)(hr:∀ e w,R e w→R' e w):YieldAt F m P l args W R':=by
 obtain ⟨fn,tmps,assign,body,hy,hR⟩:=h
 exact ⟨fn,tmps,assign,body,hy,hR.mono hr⟩
def walks:Obj→Bool
 | .mapIter ..=>true
 | .stringIter ..=>true
 | _=>false
def YieldsTo(P:Program)(l:Nat)(xs:List (List CV))(k:Nat)(J:Nat→Know→World→Prop):Prop:=
 ∀ i K w K' w' vs,J i K w→Since K w K' w'→i<xs.length→i≤k→vs.size=(xs.getD i []).length→(∀ j,j<(xs.getD i []).length→RelCVK K' ((xs.getD i []).getD j (.c .junk)) (vs.getD j undef)) →
  YieldAt (FB none) 0 P l vs w' fun e w''=>e=.returned (.bool (decide (i<k)))∧(∀ (b:Nat) (o:Obj),w'.heap[b]?=some o→walks o=true→w''.heap[b]?=some o)∧∃ K'',K'.le K''∧(∀ b,b<w'.heap.size→K' b=none→K'' b=none)∧Knows K'' w''∧J (i+1) K'' w''
structure FIter (P:Program) (f:FuncId) (caps:List C) (xs:List (List CV)):Prop where
 known:∃ fn,P.funcs[f]?=some fn∧fn.body.isSome=true∧(fn.name== "runtime.NumGoroutine")=false
 calls:∀ (l k:Nat) (J:Nat→Know→World→Prop) (K:Know) (w:World) (vs:Array Value),k≤xs.length→YieldsTo P l xs k J→J 0 K w→Laid P K→Knows K w→vs.size=caps.length →
  (∀ j,j<caps.length→RelK K (caps.getD j .junk) (vs.getD j undef)∧(vs.getD j undef).oneCell'=true) →
  CallsIn (FB none) 0 P f (#[Value.func (.yield l) #[] #[]]++vs) w fun e w'=>(∃ v,e=.returned v)∧∃ K1 w1 K',J (stopN k xs.length) K1 w1∧Since K1 w1 K' w'
def iterBase{l:Nat}{xs:List (List CV)}{k:Nat}{J:Nat→Know→World→Prop}(hy:YieldsTo P l xs k J):Base P:=
 {r:=none,fn:=false,N:=0,W:=fun _=>False,l:=l,xs:=xs,k:=k,fix:=fun _=>undef,J:=J,fnN:=fun h=>(by cases h),
  yields:=fun i K w K' w' vs hJ hle hnk hkn h hi hk hs hr=>yieldAt_mono (hy i K w K' w' vs hJ ⟨hle,hnk,hkn,h.1,h.2.1,h.2.2.1,h.2.2.2.1,fun b hb=>h.2.2.2.2 b hb (fun h=>h)⟩ hi hk hs hr) fun _ _ h=>⟨h.1,h.2.2⟩ }
def iterS(n:Nat)(caps:List C)(xs:List (List CV))(k:Nat):S:=
 {t:=.b (.v (.c (.yld 0))) :: (caps.map (fun x=>.b (.v (.c x)))++List.replicate (n - (1+caps.length)) .junk),m:=some (.cnt 0 xs k) :: List.replicate n none,g:=[] }
def IterEnds(_:Program)(xs:List (List CV))(k:Nat)(e:Exit)(s:S):Prop:=(e=.ret∨e=.normal)∧s.m[0]?=some (some (.cnt (stopN k xs.length) xs k))
theorem fiter_of_run{f:FuncId}{fn:Func}{c:Code}{caps:List C}{xs:List (List CV)}(hf:P.funcs[f]?=some fn)(hb:fn.body=some c)(hname:(fn.name== "runtime.NumGoroutine")=false)(hres:fn.results.toList=[]) 
  (ht:∀ (k:Nat) (B:Base P),k≤xs.length→(B.r=none∧∀ b,¬ B.W b)→Run P B (iterS fn.ntmps caps xs k) [c] (IterEnds P xs k)):FIter P f caps xs:=by
 refine ⟨⟨fn,hf,by rw [hb];rfl,hname⟩,?_⟩
 intro l k J K w cvs hk hy hJ hKl hK hsz hrel
 have hargs:(#[Value.func (.yield l) #[] #[]]++cvs).size=1+caps.length:=by simp [hsz]
 have hsim:Sim (iterBase hy) { K:=K,cel:=fun _=>none,rw:=fun _=>none,mp:=fun _=>none,c:={ w0:=w,K0:=K,ds:=[],l:=l,i:=0,xs:=xs,k:=k,fix:=fun _=>undef } } (iterS fn.ntmps caps xs k)
   {tmps:=(#[Value.func (.yield l) #[] #[]]++cvs)++Array.replicate (fn.ntmps - (#[Value.func (.yield l) #[] #[]]++cvs).size) undef,defers:=[] } w:=by
  refine ⟨?_,?_,rfl,fun j x hj=>?_⟩
  ·exact
   {know:=hK
    laid:=hKl
    base:=Know.le_refl _
    nk:=fun _ _ h=>h
    mem:=fun n o h=>by
     cases n with
     | zero=>simp [iterS] at h;subst h;exact ⟨rfl,rfl,rfl⟩
     | succ n=>exact (replicate_none (by simpa [iterS] using h)).elim
    cel:=fun n b h=>by cases h
    rw:=fun n x h=>by cases h
    mp:=fun n b h=>by cases h
    inj:=fun n n' b h=>by rcases h with h | h | ⟨_,_,h,_⟩<;>cases h
    apart:=fun n b h=>by rcases h with h | h | ⟨_,_,h,_⟩<;>cases h
    new:=fun n b h=>by rcases h with h | h | ⟨_,_,h,_⟩<;>cases h
    lt:=fun n b h=>by rcases h with h | h | ⟨_,_,h,_⟩<;>cases h
    os:=rfl
    tape:=rfl
    output:=rfl
    size:=Nat.le_refl _
    old:=fun _ _ _=>rfl
    j:=hJ
    y:=⟨rfl,rfl,rfl,rfl⟩
    dsk:=fun D hD=>by simp at hD
    dsn:=List.nodup_nil }
  ·simp [iterS,hsz];omega
  ·cases j with
   | zero =>
    simp [iterS] at hj
    subst hj
    have:((#[Value.func (.yield l) #[] #[]]++cvs)++Array.replicate (fn.ntmps - (#[Value.func (.yield l) #[] #[]]++cvs).size) undef).getD 0 undef=Value.func (.yield l) #[] #[]:=by
     rw [Array.getD_eq_getD_getElem?,Array.getElem?_append_left (by simp;omega),Array.getElem?_append_left (by simp)]
     rfl
    rw [this]
    exact ⟨rfl,rfl⟩
   | succ j =>
    simp only [iterS,List.getElem?_cons_succ] at hj
    by_cases hlt:j<caps.length
    ·rw [List.getElem?_append_left (by simpa using hlt)] at hj
     simp only [List.getElem?_map,Option.map_eq_some_iff] at hj
     obtain ⟨y,hy',rfl⟩:=hj
     have e1:((#[Value.func (.yield l) #[] #[]]++cvs)++Array.replicate (fn.ntmps - (#[Value.func (.yield l) #[] #[]]++cvs).size) undef).getD (j+1) undef=cvs.getD j undef:=by
      rw [Array.getD_eq_getD_getElem?,Array.getD_eq_getD_getElem?,Array.getElem?_append_left (by rw [hargs];omega),Array.getElem?_append_right (by simp)]
      simp
     rw [e1]
     have h:=hrel j hlt
     have e2:caps.getD j .junk=y:=by simp [gE,hy']
     rw [e2] at h
     exact ⟨Rel.of_relK h.1,h.2⟩
    ·rw [List.getElem?_append_right (by simpa using Nat.le_of_not_lt hlt)] at hj
     rw [List.getElem?_replicate] at hj
     split at hj
     ·rw [← Option.some.inj hj];trivial
     ·cases hj
 refine callsIn_of_wp hf hb trivial ?_ rfl
 refine wpIn_mono ((run_tri (ht k (iterBase hy) hk ⟨rfl,fun _ h=>h⟩)) _ _ _ hsim) ?_
 rintro e a' w' ⟨E',s',⟨he,hm⟩,hs'⟩
 have hc:=hs'.core
 obtain ⟨hi,hx,hk'⟩:stopN k xs.length=E'.c.i∧xs=E'.c.xs∧k=E'.c.k:=hc.mem 0 _ hm
 have hds:a'.defers=[]:=by
  rw [hs'.defers]
  cases hd:E'.c.ds with
  | nil=>rfl
  | cons D ds=>have:=(hc.dsk D (by rw [hd];simp)).2.2;cases this
 have hJ':J (stopN k xs.length) E'.c.K0 E'.c.w0:=by rw [hi];exact hc.j
 obtain ⟨v,hrun,_⟩:=results_run (fn:=fn) (r:=.tup []) (w':=w') hs' (fun _ _ _=>rfl) (by rw [hres];rfl)
 have hR:(∃ v',Ending.returned v=.returned v')∧∃ K1 w1 K',J (stopN k xs.length) K1 w1∧Since K1 w1 K' w':=
  ⟨⟨v,rfl⟩,E'.c.K0,E'.c.w0,E'.K,hJ',⟨hc.base,hc.nk,hc.know,hc.os,hc.tape,hc.output,hc.size,fun b hb=>hc.old b hb (fun h=>h)⟩⟩
 rcases he with rfl | rfl
 ·exact ⟨hds,v,hrun,hR⟩
 ·exact ⟨hds,v,hrun,hR⟩
end Go.Sym
