/- Part of the proof of the statement that the claim's last text names: contracts of functions and laws of the symbolic layer. -/
import Derived.Test.YtidbmbpeblmliaaGreatDoorO08
set_option linter.unusedVariables false
set_option linter.unusedSimpArgs false
namespace Go.Sym
open Go.RowKit
variable {P:Program} {B:Base P} {E:Env} {w:World}
def EdgesBack(ops:Array Oper):Prop:=∀ (i:Nat) (o:Oper),ops[i]?=some o→∀ e,e∈o.after.toList→Region.binds .any e=true→e.on<i
theorem edgesOk_spec{ops:List Oper}:∀ (l pre:List Oper),edgesOk l pre.length=true→pre++l=ops→∀ (i:Nat) (o:Oper),pre.length≤i→ops[i]?=some o→∀ e,e∈o.after.toList→Region.binds .any e=true→e.on<i:=by
 intro l
 induction l with
 | nil =>
  intro pre _ hpre i o hi ho
  rw [← hpre] at ho
  simp [List.getElem?_eq_none hi] at ho
 | cons x l ih =>
  intro pre h hpre i o hi ho e he hb
  simp only [edgesOk,Bool.and_eq_true] at h
  by_cases hie:i=pre.length
  ·subst hie
   have:o=x:=by
    rw [← hpre] at ho
    simp at ho
    exact ho.symm
   subst this
   have h1:=(Array.all_eq_true_iff_forall_mem.1 h.1) e (by simpa using he)
   simp only [hb,Bool.not_true,Bool.false_or] at h1
   simpa using h1
  ·refine ih (pre++[x]) ?_ (by simp [hpre]) i o (by simp;omega) ho e he hb
   simpa using h.2
theorem dstOk_spec{n:Nat}:∀ (l:List Oper) (seen:List Nat),dstOk n l seen=true →
  (∀ (i j:Nat) (x y:Oper) (d:Nat),l[i]?=some x→l[j]?=some y→x.dst=some d→y.dst=some d→i=j)∧(∀ (i:Nat) (x:Oper) (d:Nat),l[i]?=some x→x.dst=some d→d<n∧d∉seen):=by
 intro l
 induction l with
 | nil=>intro seen _;exact ⟨fun i j x y d h=>by simp at h,fun i x d h=>by simp at h⟩
 | cons o l ih =>
  intro seen h
  simp only [dstOk] at h
  cases hd:o.dst with
  | none =>
   simp only [hd] at h
   obtain ⟨h1,h2⟩:=ih seen h
   refine ⟨fun i j x y d hx hy hxd hyd=>?_,fun i x d hx hxd=>?_⟩
   ·cases i with
    | zero=>simp at hx;subst hx;rw [hd] at hxd;cases hxd
    | succ i=>cases j with
     | zero=>simp at hy;subst hy;rw [hd] at hyd;cases hyd
     | succ j=>rw [h1 i j x y d (by simpa using hx) (by simpa using hy) hxd hyd]
   ·cases i with
    | zero=>simp at hx;subst hx;rw [hd] at hxd;cases hxd
    | succ i=>exact h2 i x d (by simpa using hx) hxd
  | some d0 =>
   simp only [hd,Bool.and_eq_true,Bool.not_eq_true'] at h
   obtain ⟨⟨h0,hs⟩,h⟩:=h
   have hs':d0∉seen:=fun hm=>by
    rw [List.any_eq_false] at hs
    exact hs d0 hm (by simp)
   obtain ⟨h1,h2⟩:=ih (d0 :: seen) h
   refine ⟨fun i j x y d hx hy hxd hyd=>?_,fun i x d hx hxd=>?_⟩
   ·cases i with
    | zero =>
     simp at hx;subst hx;rw [hd] at hxd;cases hxd
     cases j with
     | zero=>rfl
     | succ j =>
      have:=(h2 j y d0 (by simpa using hy) hyd).2
      exact absurd List.mem_cons_self this
    | succ i=>cases j with
     | zero =>
      simp at hy;subst hy;rw [hd] at hyd;cases hyd
      have:=(h2 i x d0 (by simpa using hx) hxd).2
      exact absurd List.mem_cons_self this
     | succ j=>rw [h1 i j x y d (by simpa using hx) (by simpa using hy) hxd hyd]
   ·cases i with
    | zero=>simp at hx;subst hx;rw [hd] at hxd;cases hxd;exact ⟨by simpa using h0,hs'⟩
    | succ i =>
     have:=h2 i x d (by simpa using hx) hxd
     exact ⟨this.1,fun hm=>this.2 (List.mem_cons_of_mem _ hm)⟩
theorem distinct_of{ops:Array Oper}{n:Nat}(h:dstOk n ops.toList []=true):Distinct ops n:=by
 obtain ⟨h1,h2⟩:=dstOk_spec ops.toList [] h
 exact ⟨fun i j oi oj d hi hj hx hy=>h1 i j oi oj d (by simpa using hi) (by simpa using hj) hx hy,fun i o d ho hd=>(h2 i o d (by simpa using ho) hd).1⟩
theorem any_sound{ops:Array Oper}{hs:List (Nat×Hint)}{mk:List Nat}{Q:Exit→Act→World→Prop}(hF:elderAny hs=true→∀ b,¬ B.W b)(hmk:MasksOk ops.toList mk)(hml:mk.length=ops.size)(hback:EdgesBack ops):
  ∀ (fuel:Nat) (is:List Nat) {E:Env} {listed:Array Bool} {s sf:S} {q:List Ask} {tr:List (Nat×List Nat)} {a:Act} {w:World},listed.size=ops.size→is.Nodup→(∀ i,i∈is↔i<ops.size∧listed.getD i true=false)→is.length≤fuel→Closed ops listed →
  evalOps P ops hs is s=some (sf,q,tr)→allA q→pairsOk ops hs mk tr=true→RSim B E ops s a w→(∀ i,i∈is→s.g[i]?=some none)→Distinct ops s.t.length →
  (∀ a' w' E',RSim B E' ops sf a' w'→Q .normal a' w')→wpAnyIn (FB B.r) 0 P .any ops Q fuel listed a w:=by
 intro fuel
 induction fuel with
 | zero =>
  intro is E listed s sf q tr a w hsz _ hmem hlen _ he _ _ hr _ _ hQ
  have:is=[]:=List.eq_nil_of_length_eq_zero (by omega)
  subst this
  simp only [evalOps] at he
  cases he
  refine ⟨?_,hQ a w E hr⟩
  unfold Region.ready
  rw [List.filter_eq_nil_iff]
  intro i hi
  have hi':i<ops.size:=by simpa using hi
  have:=mt (hmem i).2 (by simp)
  have hl:listed.getD i true=true:=by
   cases h:listed.getD i true with
   | true=>rfl
   | false=>exact absurd ⟨hi',h⟩ this
  simp only [hl,Bool.not_true,Bool.false_and,Bool.false_eq_true,not_false_eq_true]
 | succ fuel ih =>
  intro is E listed s sf q tr a w hsz hnd hmem hlen hcl he hq hp hr hfr hd hQ
  have hready:∀ i,i∈Region.ready .any ops listed↔i∈is∧∃ o,ops[i]?=some o∧∀ e,e∈o.after.toList→Region.binds .any e=true→listed.getD e.on false=true:=by
   intro i
   unfold Region.ready
   rw [List.mem_filter]
   constructor
   ·rintro ⟨h1,h2⟩
    have hi:i<ops.size:=by simpa using h1
    simp only [Bool.and_eq_true,Bool.not_eq_true'] at h2
    refine ⟨(hmem i).2 ⟨hi,h2.1⟩,ops[i],by simp [hi],fun e he' hb=>?_⟩
    have h3:=h2.2
    simp only [Array.getElem?_eq_getElem hi,Option.map_some,Option.getD_some] at h3
    have h4:=(Array.all_eq_true_iff_forall_mem.1 h3) e (by simpa using he')
    simpa [hb] using h4
   ·rintro ⟨h1,o,ho,h2⟩
    obtain ⟨hi,hl⟩:=(hmem i).1 h1
    refine ⟨by simpa using hi,?_⟩
    simp only [hl,ho,Bool.not_false,Bool.true_and,Option.map_some,Option.getD_some]
    apply Array.all_eq_true_iff_forall_mem.2
    intro e he'
    cases hb:Region.binds .any e with
    | false=>rfl
    | true=>simpa using h2 e (by simpa using he') hb
  refine ⟨fun hnil=>?_,fun i hi=>?_⟩
  ·have hno:∀ n,n∉is:=by
    intro n
    induction n using Nat.strongRecOn with
    | _ n ihn =>
     intro hn
     obtain ⟨hlt,hl⟩:=(hmem n).1 hn
     have:n∈Region.ready .any ops listed:=by
      refine (hready n).2 ⟨hn,ops[n],by simp [hlt],fun e he' hb=>?_⟩
      have hb':=hback n ops[n] (by simp [hlt]) e he' hb
      cases hle:listed.getD e.on false with
      | true=>rfl
      | false =>
       have hlt':e.on<ops.size:=by omega
       refine absurd ((hmem e.on).2 ⟨hlt',?_⟩) (ihn e.on hb')
       have:listed.getD e.on true=listed.getD e.on false:=by simp [show e.on<listed.size by omega]
       rw [this];exact hle
     rw [hnil] at this
     cases this
   have:is=[]:=List.eq_nil_iff_forall_not_mem.2 hno
   subst this
   simp only [evalOps] at he
   cases he
   exact hQ a w E hr
  ·obtain ⟨hin,o,ho,hpre⟩:=(hready i).1 hi
   obtain ⟨hilt,hil⟩:=(hmem i).1 hin
   obtain ⟨l1,l2,rfl⟩:=List.append_of_mem hin
   have hm:∀ j,j∈l1→(mk.getD i 0).testBit j=false:=by
    intro j hj
    cases hb:(mk.getD i 0).testBit j with
    | false=>rfl
    | true =>
     have h1:=waits_listed hsz hmk hcl (i+1) i (by omega) (by omega) o ho hpre j hb
     obtain ⟨h2,h3⟩:=(hmem j).1 (by simp [hj])
     have:listed.getD j true=listed.getD j false:=by simp [show j<listed.size by omega]
     rw [this,h1] at h3
     cases h3
   obtain ⟨s1,q1,n1,q2,tr2,hst,hev,_,_,hp2,himp⟩:=take_first l1 l2 he hp hr.pok hfr hnd hm
   have hnd2:(l1++l2).Nodup:=List.Nodup.sublist (by simp) hnd
   have hni:i∉l1++l2:=by
    intro h
    obtain ⟨_,h4,h5⟩:=List.nodup_append.1 hnd
    rcases List.mem_append.1 h with h | h
    ·exact h5 i h i List.mem_cons_self rfl
    ·exact (List.nodup_cons.1 h4).1 h
   refine step_sound (fun h=>hF (hintAt_elder h)) hst (himp hq).1 hr hd (hfr i (by simp)) ?_
   intro a' w' E' hr'
   have hset:∀ k,(listed.setIfInBounds i true).getD k true=if k=i then true else listed.getD k true:=by
    intro k
    by_cases hk:k=i
    ·subst hk
     simp [show k<listed.size by omega]
    ·rw [if_neg hk]
     simp [Ne.symm hk]
   have hsetf:∀ k,listed.getD k false=true→(listed.setIfInBounds i true).getD k false=true:=by
    intro k hk
    by_cases hki:k=i
    ·subst hki
     simp [show k<listed.size by omega]
    ·have:(listed.setIfInBounds i true).getD k false=listed.getD k false:=by simp [Ne.symm hki]
     rw [this];exact hk
   refine ih (l1++l2) (by simpa using hsz) hnd2 (fun k=>?_) (by simp at hlen ⊢;omega) ?_ hev (himp hq).2 hp2 hr' (fun k hk=>?_) (by rw [stepOp_t hst];exact hd) hQ
   ·rw [hset k]
    by_cases hk:k=i
    ·subst hk
     rw [if_pos rfl]
     exact ⟨fun h=>absurd h hni,fun h=>by cases h.2⟩
    ·rw [if_neg hk,← hmem k]
     simp [hk]
   ·intro k ok hk hok e he' hb
    rw [hset k] at hk
    by_cases hki:k=i
    ·subst hki
     rw [ho] at hok
     cases hok
     exact hsetf e.on (hpre e he' hb)
    ·rw [if_neg hki] at hk
     exact hsetf e.on (hcl k ok hk hok e he' hb)
   ·rw [stepOp_g hst (fun e=>hni (by rw [e];exact hk))]
    exact hfr k (by
     rcases List.mem_append.1 hk with h | h<;>simp [h])
def C.own:C→Bool
 | .ptr .. | .row .. | .rel .. | .oclo .. | .omap ..=>true
 | _=>false
def CV.own:CV→Bool
 | .c x=>x.own
 | .agg _=>false
 | .pagg _=>true
def ownAny:List CV→Bool
 | []=>false
 | x :: xs=>x.own||ownAny xs
def SB.own:SB→Bool
 | .v x=>x.own
 | .tup xs=>ownAny xs
def SV.forget:SV→SV
 | .junk=>.junk
 | .b x=>match x.own with
  | true=>.junk
  | false=>.b x
 | .may p x=>match x.own with
  | true=>.junk
  | false=>.may p x
 | .pin k x=>match x.own with
  | true=>.junk
  | false=>.pin k x
def yieldOf(ops:Array Oper)(o:Oper)(s:S):Option (Path×Nat×List CV):=
 match o.op with
 | .call c=>match c.callee with
  | .value f=>match guardPath ops s o with
   | some p=>match s.ev p f,evAll s p c.args.toList with
    | some (.v (.c (.yld n))),some vs=>match allV vs with
     | some xs=>match allImm xs with
      | true=>some (p,n,xs)
      | false=>none
     | none=>none
    | _,_=>none
   | none=>none
  | _=>none
 | _=>none
def bump(g:List (Option Bool))(p:Path)(i:Nat):Nat:=
 match p with
 | []=>i+1
 | _=>bif holds g p then i+1 else i
def stepYield(ops:Array Oper)(i:Nat)(s:S):Option (S×List Ask):=
 match ops[i]? with
 | none=>none
 | some o=>match yieldOf ops o s with
  | none=>none
  | some (p,n,xs)=>match s.m[n]? with
   | some (some (.cnt j ys k))=>some ({ t:=setSlot (s.t.map SV.forget) o.dst (slotOf p (.v (.c (.bool (decide (j<k)))))),m:=(s.m.map fun _=>none).set n (some (.cnt (bump s.g p j) ys k)),g:=s.g.set i (outcomeAt o.dst (.v (.c (.bool (decide (j<k)))))) },askOf s.g p [j<ys.length∧j≤k∧ys.getD j []=xs])
   | _=>none
def evalText(P:Program)(ops:Array Oper)(hs:List (Nat×Hint)):List Nat→S→Option (S×List Ask)
 | [],s=>some (s,[])
 | i :: is,s=>match stepYield ops i s with
  | some (s',q)=>match evalText P ops hs is s' with
   | some (s'',q')=>some (s'',q++q')
   | none=>none
  | none=>match stepOwn P ops i (hintAt hs i) s with
   | some (s',q)=>match evalText P ops hs is s' with
    | some (s'',q')=>some (s'',q++q')
    | none=>none
   | none=>match stepOp P ops i (hintAt hs i) s with
    | none=>none
    | some (s',q,_)=>match evalText P ops hs is s' with
     | none=>none
     | some (s'',q')=>some (s'',q++q')
def Env.bare(E:Env)(K K0:Know)(w0:World)(j:Nat):Env:={ K:=K,cel:=fun _=>none,rw:=fun _=>none,mp:=fun _=>none,c:={ E.c with w0:=w0,K0:=K0,i:=j} }
theorem rel_bare{K K0:Know}{w0:World}{j:Nat}(hK:E.K.le K){c:C}{u:Value}(hc:c.own=false)(h:Rel E c u):Rel (E.bare K K0 w0 j) c u:=by
 cases c with
 | ptr=>cases hc
 | row=>cases hc
 | rel=>cases hc
 | oclo=>cases hc
 | omap=>cases hc
 | yld n=>exact h
 | _=>exact RelK.mono hK h
theorem relCV_bare{K K0:Know}{w0:World}{j:Nat}(hK:E.K.le K){c:CV}{u:Value}(hc:c.own=false)(h:RelCV E c u):RelCV (E.bare K K0 w0 j) c u:=by
 cases c with
 | c x=>exact ⟨rel_bare hK hc h.1,h.2⟩
 | agg cs=>obtain ⟨arr,hu,hl⟩:=h;exact ⟨arr,hu,hl.mono hK⟩
 | pagg cs=>cases hc
theorem ownAny_get:∀ {xs:List CV},ownAny xs=false→∀ j,j<xs.length→(xs.getD j (.c .junk)).own=false:=by
 intro xs
 induction xs with
 | nil=>intro _ j hj;simp at hj
 | cons x xs ih =>
  intro h j hj
  simp only [ownAny,Bool.or_eq_false_iff] at h
  cases j with
  | zero=>exact h.1
  | succ j=>simpa [gE] using ih h.2 j (by simpa using hj)
theorem relSB_bare{K K0:Know}{w0:World}{j:Nat}(hK:E.K.le K){c:SB}{u:Value}(hc:c.own=false)(h:RelSB E c u):RelSB (E.bare K K0 w0 j) c u:=by
 cases c with
 | v x=>exact relCV_bare hK hc h
 | tup xs =>
  obtain ⟨vs,hu,hs,hr⟩:=h
  exact ⟨vs,hu,hs,fun i hi=>relCV_bare hK (ownAny_get hc i hi) (hr i hi)⟩
theorem relSV_bare{K K0:Know}{w0:World}{j:Nat}(hK:E.K.le K){g:List (Option Bool)}{x:SV}{u:Value}(h:RelSV E g x u):RelSV (E.bare K K0 w0 j) g x.forget u:=by
 cases x with
 | junk=>trivial
 | b y =>
  simp only [SV.forget]
  split
  ·trivial
  ·rename_i hy;exact relSB_bare hK hy h
 | may p y =>
  simp only [SV.forget]
  split
  ·trivial
  ·rename_i hy;exact ⟨fun hp=>relSB_bare hK hy (h.1 hp),h.2⟩
 | pin k y =>
  simp only [SV.forget]
  split
  ·trivial
  ·rename_i hy;exact ⟨relSB_bare hK hy h.1,h.2⟩
theorem forget_may{x:SV}{p:Path}{y:SB}(h:x.forget=.may p y):x=.may p y:=by
 cases x with
 | junk=>cases h
 | b z=>simp only [SV.forget] at h;split at h<;>cases h
 | pin k z=>simp only [SV.forget] at h;split at h<;>cases h
 | may q z =>
  simp only [SV.forget] at h
  split at h
  ·cases h
  ·cases h;rfl
theorem Core.bare{m:List (Option MO)}{n j k:Nat}{xs:List (List CV)}{K0:Know}{w0:World}{w':World}{K:Know}(hc:Core B E m w)(hK:E.K.le K)(hkn:Knows K w')(hb:K0.le K)(hnk:∀ b,b<w0.heap.size→K0 b=none→K b=none) 
  (hos:w'.os=w0.os) (htape:w'.tape=w0.tape) (hout:w'.output=w0.output) (hsz:w0.heap.size≤w'.heap.size) (hold:∀ b,b<w0.heap.size→¬ B.W b→w'.heap[b]?=w0.heap[b]?) (hj:B.J j K0 w0)
  (hx:xs=E.c.xs) (hk:k=E.c.k):Core B (E.bare K K0 w0 j) ((m.map fun _=>none).set n (some (.cnt j xs k))) w':=
 {know:=hkn
  laid:=hc.laid.mono hK
  base:=hb
  nk:=hnk
  mem:=fun n' o h=>by
   rcases getElem?_set_some h with ⟨rfl,h2⟩ | ⟨_,h2⟩
   ·cases h2;exact ⟨rfl,hx,hk⟩
   ·rw [List.getElem?_map] at h2
    simp only [Option.map_eq_some_iff] at h2
    obtain ⟨_,_,h3⟩:=h2
    cases h3
  cel:=fun n' b h=>by cases h
  rw:=fun n' x h=>by cases h
  mp:=fun n' b h=>by cases h
  inj:=fun n1 n2 b h=>by rcases h with h | h | ⟨_,_,h,_⟩<;>cases h
  apart:=fun n1 b h=>by rcases h with h | h | ⟨_,_,h,_⟩<;>cases h
  new:=fun n1 b h=>by rcases h with h | h | ⟨_,_,h,_⟩<;>cases h
  lt:=fun n1 b h=>by rcases h with h | h | ⟨_,_,h,_⟩<;>cases h
  os:=hos
  tape:=htape
  output:=hout
  size:=hsz
  old:=hold
  j:=hj
  y:=hc.y
  dsk:=fun D hD=>⟨hK _ _ (hc.dsk D hD).1,(hc.dsk D hD).2⟩
  dsn:=hc.dsn }
theorem rsim_bare{ops:Array Oper}{s:S}{a:Act}{i n j k:Nat}{xs:List (List CV)}{o:Oper}{p:Path}{v:SB}{u:Value}{K K0:Know}{w0 w':World}(hs:RSim B E ops s a w)(hd:Distinct ops s.t.length) 
  (hi:s.g[i]?=some none) (ho:ops[i]?=some o) (hp:PathOk s.g p) (hK:E.K.le K) (hc:Core B (E.bare K K0 w0 j) ((s.m.map fun _=>none).set n (some (.cnt j xs k))) w') (h1:holds s.g p=true→RelSB (E.bare K K0 w0 j) v u) (h0:holds s.g p=false→u=undef) :
  RSim B (E.bare K K0 w0 j) ops { t:=setSlot (s.t.map SV.forget) o.dst (slotOf p v),m:=(s.m.map fun _=>none).set n (some (.cnt j xs k)),g:=s.g.set i (outcomeAt o.dst v) } (a.put o.dst u) w':=by
 have hpok:POk { s with t:=s.t.map SV.forget }:=fun k p x hk=>by
  simp only [List.getElem?_map,Option.map_eq_some_iff] at hk
  obtain ⟨y,hy,h⟩:=hk
  rw [forget_may h] at hy
  exact hs.pok k p x hy
 have hgok:GOk ops { s with t:=s.t.map SV.forget }:=fun jj b hj=>by
  obtain ⟨oj,d,hoj,hdj,hsl⟩:=hs.gok jj b hj
  refine ⟨oj,d,hoj,hdj,?_⟩
  simp only [List.getElem?_map]
  rcases hsl with h | ⟨p,h⟩
  ·left;rw [h];rfl
  ·right;exact ⟨p,by rw [h];rfl⟩
 refine ⟨⟨hc,?_,?_,?_⟩,?_,?_⟩
 ·rw [put_size,setSlot_length,List.length_map];exact hs.sim.size
 ·rw [put_defers'];exact hs.sim.defers
 ·intro k x hk
  rcases setSlot_get hk with ⟨hdst,rfl,hlt⟩ | ⟨hdst,hk'⟩
  ·rw [hdst,put_getD_same (by rw [hs.sim.size];simpa using hlt)]
   cases p with
   | nil=>exact h1 rfl
   | cons y p =>
    show (holds _ (y :: p)=true→RelSB _ v u)∧(holds _ (y :: p)=false→u=undef)
    rw [holds_set hi hp]
    exact ⟨h1,h0⟩
  ·rw [put_getD hdst]
   simp only [List.getElem?_map,Option.map_eq_some_iff] at hk'
   obtain ⟨y,hy,rfl⟩:=hk'
   have hold:=relSV_bare (K0:=K0) (w0:=w0) (j:=j) hK (hs.sim.slot k y hy)
   generalize hz:y.forget=z at hold
   cases z with
   | junk=>trivial
   | b z=>exact hold
   | pin kk z=>exact hold
   | may q z =>
    show (holds _ q=true→_)∧(holds _ q=false→_)
    rw [forget_may hz] at hy
    rw [holds_set hi (hs.pok k q z hy).1]
    exact hold
 ·intro j' b hj
  simp only [List.getElem?_set] at hj
  by_cases hij:i=j'
  ·subst hij
   rw [if_pos rfl] at hj
   split at hj
   ·have hob:outcomeAt o.dst v=some b:=Option.some.inj hj
    cases hdst:o.dst with
    | none=>simp [hdst,outcomeAt] at hob
    | some d =>
     simp only [hdst,outcomeAt] at hob
     have hv:v=.v (.c (.bool b)):=by
      unfold outcome at hob
      split at hob
      ·cases hob;rfl
      ·cases hob
     subst hv
     refine ⟨o,d,ho,hdst,?_⟩
     have hlt:=hd.2 i o d ho hdst
     rw [setSlot_same (by simpa using hlt)]
     cases p with
     | nil=>exact .inl rfl
     | cons y p=>exact .inr ⟨y :: p,rfl⟩
   ·cases hj
  ·rw [if_neg hij] at hj
   obtain ⟨oj,d,hoj,hdj,hsl⟩:=hgok j' b hj
   refine ⟨oj,d,hoj,hdj,?_⟩
   have:o.dst≠some d:=fun e=>hij (hd.1 i j' o oj d ho hoj e hdj)
   rw [setSlot_other this]
   exact hsl
 ·exact pok_put (s:={ s with t:=s.t.map SV.forget }) hpok hi hp
theorem yieldOf_some{ops:Array Oper}{o:Oper}{s:S}{p:Path}{n:Nat}{xs:List CV}(h:yieldOf ops o s=some (p,n,xs)):
  ∃ c f vs,o.op=.call c∧c.callee=.value f∧guardPath ops s o=some p∧s.ev p f=some (.v (.c (.yld n)))∧evAll s p c.args.toList=some vs∧allV vs=some xs∧allImm xs=true:=by
 unfold yieldOf at h
 split at h
 ·rename_i c hop
  split at h
  ·rename_i f hf
   split at h
   ·rename_i p' hp
    split at h
    ·rename_i n' vs h1 h2
     split at h
     ·rename_i xs' hx
      split at h
      ·rename_i himm
       cases h
       exact ⟨c,f,vs,hop,hf,hp,h1,h2,hx,himm⟩
      ·cases h
     ·cases h
    ·cases h
   ·cases h
  ·cases h
 ·cases h
theorem stepYield_sound{ops:Array Oper}{i:Nat}{s s':S}{q:List Ask}{a:Act}(hst:stepYield ops i s=some (s',q))(hq:allA q)(hs:RSim B E ops s a w)(hd:Distinct ops s.t.length)(hi:s.g[i]?=some none) 
  {K:Act→World→Prop} {Q:Exit→Act→World→Prop} (hK:∀ a' w' E',RSim B E' ops s' a' w'→K a' w'):wpOpIn (FB B.r) 0 P ops Q i K a w:=by
 unfold stepYield at hst
 split at hst
 ·cases hst
 rename_i o ho
 split at hst
 ·cases hst
 rename_i p n xs hy
 split at hst
 case h_2=>cases hst
 rename_i j ys k hm
 cases hst
 obtain ⟨c,f,vs,hop,hcal,hgp,hf,hargs,hx,himm⟩:=yieldOf_some hy
 have hc:=hs.sim.core
 obtain ⟨hj,hys,hk⟩:j=E.c.i∧ys=E.c.xs∧k=E.c.k:=hc.mem n _ hm
 obtain ⟨y1,y2,y3,_⟩:=hc.y
 obtain ⟨hw,hpok⟩:=wanted_iff hs hgp
 unfold wpOpIn
 simp only [ho]
 rw [hw]
 cases hh:holds s.g p with
 | false =>
  simp only [Bool.false_eq_true,if_false]
  have hb:bump s.g p j=j:=by
   cases p with
   | nil=>cases hh
   | cons y p=>simp only [bump,hh,cond_false]
  rw [hb] at hK
  refine ⟨fun _ _=>trivial,hK _ w (E.bare E.K E.c.K0 E.c.w0 j) ?_⟩
  refine rsim_bare hs hd hi ho hpok (Know.le_refl _) ?_ (fun e=>by rw [hh] at e;cases e) (fun _=>rfl)
  exact hc.bare (Know.le_refl _) hc.know hc.base hc.nk hc.os hc.tape hc.output hc.size hc.old (by rw [hj];exact hc.j) hys hk
 | true =>
  simp only [if_true]
  have hq':j<ys.length∧j≤k∧ys.getD j []=xs:=allA_askOf hq hh
  have hb:bump s.g p j=j+1:=by
   cases p with
   | nil=>rfl
   | cons y p=>simp only [bump,hh,cond_true]
  rw [hb] at hK
  have hfv:a.eval f=.func (.yield E.c.l) #[] #[]:=(ev_rel hs.sim hh hf).1
  have hv:=evAll_rel hs.sim hh hargs
  obtain ⟨l1,l2⟩:=allV_rel (us:=c.args.toList.map a.eval) (E:=E) hx (by simpa using hv.1) (fun j v u hj hu=>by
   rw [List.getElem?_map] at hu
   simp only [Option.map_eq_some_iff] at hu
   obtain ⟨z,hz,rfl⟩:=hu
   exact hv.2 j z v (by simpa using hz) hj)
  have e2:∀ j,(c.args.map a.eval).getD j undef=(c.args.toList.map a.eval).getD j undef:=fun j=>by
   simp [gE]
  obtain ⟨hq1,hq2,hq3⟩:=hq'
  have hya:=B.yields j E.c.K0 E.c.w0 E.K w (c.args.map a.eval) (by rw [hj];exact hc.j) hc.base hc.nk hc.know ⟨hc.os,hc.tape,hc.output,hc.size,hc.old⟩ (by rw [← y2,← hys];exact hq1) (by rw [← y3,← hk];exact hq2)
   (by rw [← y2,← hys,hq3,l1];simp) (by
    rw [← y2,← hys,hq3]
    intro jj hjj
    rw [e2]
    exact RelCV.imm (allImm_get himm jj hjj) (l2 jj hjj))
  obtain ⟨fn,tmps,assign,body,hyr,hR⟩:=hya
  refine wpIn_of (by intro c hc;rw [hop] at hc;cases hc) ?_
  have hrun:(execOp a.eval o).run P w=.ok (.round E.c.l fn tmps assign body) w:=by
   rw [← y1] at hyr
   simp only [execOp,hop,resolve,hcal,hfv,Deferred.ofValue,invoke,Sem.run_bind,Sem.run_pure,Result.andThen_ok,Array.empty_append]
   exact hyr
  rw [hrun]
  refine ⟨fun h=>absurd h (by simp [FB]),?_⟩
  rw [y1]
  refine RoundIn.mono (show RoundIn (FB B.r) 0 P B.l fn tmps assign body w _ from hR) ?_
  rintro e w'' ⟨rfl,K'',hle,hnew,hkn,hJ⟩
  refine hK _ w'' (E.bare K'' K'' w'' (j+1)) ?_
  refine rsim_bare hs hd hi ho hpok hle ?_ (fun _=>?_) (fun e=>by rw [hh] at e;cases e)
  ·exact hc.bare hle hkn (Know.le_refl _) (fun _ _ h=>h) rfl rfl rfl (Nat.le_refl _) (fun _ _ _=>rfl) hJ hys hk
  ·rw [hk,y3]
   exact ⟨RelK.bool _,rfl⟩
theorem stepYield_t{ops:Array Oper}{i:Nat}{s s':S}{q:List Ask}(hst:stepYield ops i s=some (s',q)):s'.t.length=s.t.length∧∀ j,i≠j→s'.g[j]?=s.g[j]?:=by
 unfold stepYield at hst
 split at hst
 ·cases hst
 split at hst
 ·cases hst
 split at hst
 case h_2=>cases hst
 cases hst
 exact ⟨by rw [setSlot_length,List.length_map],fun j hj=>by simp [hj]⟩
theorem evalText_sound{ops:Array Oper}{hs:List (Nat×Hint)}{Q:Exit→Act→World→Prop}(hF:elderAny hs=true→∀ b,¬ B.W b):∀ (is:List Nat) {E:Env} {s s':S} {q:List Ask} {a:Act} {w:World},evalText P ops hs is s=some (s',q)→allA q→is.Nodup →
  (∀ i,i∈is→s.g[i]?=some none)→Distinct ops s.t.length→RSim B E ops s a w→(∀ a' w' E',RSim B E' ops s' a' w'→Q .normal a' w')→wpOpsIn (FB B.r) 0 P ops Q is a w:=by
 intro is
 induction is with
 | nil =>
  intro E s s' q a w he _ _ _ _ hr hQ
  simp only [evalText] at he
  cases he
  exact hQ a w E hr
 | cons i is ih =>
  intro E s s' q a w he hq hnd hfr hd hr hQ
  simp only [evalText] at he
  have hnd':=List.nodup_cons.1 hnd
  rw [wpOpsIn_cons]
  split at he
  ·rename_i s1 q1 hst
   split at he
   ·rename_i s2 q2 hev
    cases he
    obtain ⟨hqa,hqb⟩:=allA_append.1 hq
    obtain ⟨ht,hg⟩:=stepYield_t hst
    refine stepYield_sound hst hqa hr hd (hfr i List.mem_cons_self) ?_
    intro a' w' E' hr'
    refine ih hev hqb hnd'.2 (fun j hj=>?_) (by rw [ht];exact hd) hr' hQ
    rw [hg j (fun e=>hnd'.1 (by rw [e];exact hj))]
    exact hfr j (List.mem_cons_of_mem _ hj)
   ·cases he
  ·split at he
   ·rename_i s1 q1 hst
    split at he
    ·rename_i s2 q2 hev
     cases he
     obtain ⟨hqa,hqb⟩:=allA_append.1 hq
     obtain ⟨ht,hg⟩:=stepOwn_t hst
     refine stepOwn_sound hst hqa hr hd (hfr i List.mem_cons_self) ?_
     intro a' w' E' hr'
     refine ih hev hqb hnd'.2 (fun j hj=>?_) (by rw [ht];exact hd) hr' hQ
     rw [hg j (fun e=>hnd'.1 (by rw [e];exact hj))]
     exact hfr j (List.mem_cons_of_mem _ hj)
    ·cases he
   ·split at he
    ·cases he
    ·rename_i s1 q1 ns1 hst
     split at he
     ·cases he
     ·rename_i s2 q2 hev
      cases he
      obtain ⟨hqa,hqb⟩:=allA_append.1 hq
      refine step_sound (fun h=>hF (hintAt_elder h)) hst hqa hr hd (hfr i List.mem_cons_self) ?_
      intro a' w' E' hr'
      refine ih hev hqb hnd'.2 (fun j hj=>?_) (by rw [stepOp_t hst];exact hd) hr' hQ
      rw [stepOp_g hst (fun e=>hnd'.1 (by rw [e];exact hj))]
      exact hfr j (List.mem_cons_of_mem _ hj)
def ownIdx(hs:List (Nat×Hint)):Nat→Nat→Option Nat
 | 0,_=>none
 | k+1,i=>match hintAt hs i with
  | .own ..=>some i
  | .mark=>some i
  | _=>ownIdx hs k (i+1)
def chainOk(mk:List Nat)(n t:Nat):Bool:=(List.range' t (n - t)).all fun i=>(List.range i).all fun j=>(mk.getD i 0).testBit j
theorem any_sound2{ops:Array Oper}{hs:List (Nat×Hint)}{mk:List Nat}{Q:Exit→Act→World→Prop}(hF:elderAny hs=true→∀ b,¬ B.W b)(hmk:MasksOk ops.toList mk)(hml:mk.length=ops.size)(hback:EdgesBack ops):
  ∀ (fuel:Nat) (is tl:List Nat) {E:Env} {listed:Array Bool} {s sm sf:S} {q q2:List Ask} {tr:List (Nat×List Nat)} {a:Act} {w:World},listed.size=ops.size→(is++tl).Nodup→(∀ i,i∈is++tl↔i<ops.size∧listed.getD i true=false)→(is++tl).length≤fuel→Closed ops listed →
  (∀ i,i∈tl→∀ j,j∈is→(mk.getD i 0).testBit j=true)→tl.Pairwise (fun j i=>(mk.getD i 0).testBit j=true) →
  evalOps P ops hs is s=some (sm,q,tr)→allA q→pairsOk ops hs mk tr=true→evalText P ops hs tl sm=some (sf,q2)→allA q2→RSim B E ops s a w→(∀ i,i∈is++tl→s.g[i]?=some none)→Distinct ops s.t.length →
  (∀ a' w' E',RSim B E' ops sf a' w'→Q .normal a' w')→wpAnyIn (FB B.r) 0 P .any ops Q fuel listed a w:=by
 intro fuel
 induction fuel with
 | zero =>
  intro is tl E listed s sm sf q q2 tr a w hsz _ hmem hlen _ _ _ he _ _ ht _ hr _ _ hQ
  have h0:is++tl=[]:=List.eq_nil_of_length_eq_zero (by omega)
  obtain ⟨rfl,rfl⟩:=List.append_eq_nil_iff.1 h0
  simp only [evalOps] at he
  cases he
  simp only [evalText] at ht
  cases ht
  refine ⟨?_,hQ a w E hr⟩
  unfold Region.ready
  rw [List.filter_eq_nil_iff]
  intro i hi
  have hi':i<ops.size:=by simpa using hi
  have:=mt (hmem i).2 (by simp)
  have hl:listed.getD i true=true:=by
   cases h:listed.getD i true with
   | true=>rfl
   | false=>exact absurd ⟨hi',h⟩ this
  simp only [hl,Bool.not_true,Bool.false_and,Bool.false_eq_true,not_false_eq_true]
 | succ fuel ih =>
  intro is tl E listed s sm sf q q2 tr a w hsz hnd hmem hlen hcl hch hpw he hq hp ht hq2 hr hfr hd hQ
  have hready:∀ i,i∈Region.ready .any ops listed↔i∈is++tl∧∃ o,ops[i]?=some o∧∀ e,e∈o.after.toList→Region.binds .any e=true→listed.getD e.on false=true:=by
   intro i
   unfold Region.ready
   rw [List.mem_filter]
   constructor
   ·rintro ⟨h1,h2⟩
    have hi:i<ops.size:=by simpa using h1
    simp only [Bool.and_eq_true,Bool.not_eq_true'] at h2
    refine ⟨(hmem i).2 ⟨hi,h2.1⟩,ops[i],by simp [hi],fun e he' hb=>?_⟩
    have h3:=h2.2
    simp only [Array.getElem?_eq_getElem hi,Option.map_some,Option.getD_some] at h3
    have h4:=(Array.all_eq_true_iff_forall_mem.1 h3) e (by simpa using he')
    simpa [hb] using h4
   ·rintro ⟨h1,o,ho,h2⟩
    obtain ⟨hi,hl⟩:=(hmem i).1 h1
    refine ⟨by simpa using hi,?_⟩
    simp only [hl,ho,Bool.not_false,Bool.true_and,Option.map_some,Option.getD_some]
    apply Array.all_eq_true_iff_forall_mem.2
    intro e he'
    cases hb:Region.binds .any e with
    | false=>rfl
    | true=>simpa using h2 e (by simpa using he') hb
  refine ⟨fun hnil=>?_,fun i hi=>?_⟩
  ·have hno:∀ n,n∉is++tl:=by
    intro n
    induction n using Nat.strongRecOn with
    | _ n ihn =>
     intro hn
     obtain ⟨hlt,hl⟩:=(hmem n).1 hn
     have:n∈Region.ready .any ops listed:=by
      refine (hready n).2 ⟨hn,ops[n],by simp [hlt],fun e he' hb=>?_⟩
      have hb':=hback n ops[n] (by simp [hlt]) e he' hb
      cases hle:listed.getD e.on false with
      | true=>rfl
      | false =>
       have hlt':e.on<ops.size:=by omega
       refine absurd ((hmem e.on).2 ⟨hlt',?_⟩) (ihn e.on hb')
       have:listed.getD e.on true=listed.getD e.on false:=by simp [show e.on<listed.size by omega]
       rw [this];exact hle
     rw [hnil] at this
     cases this
   have h0:is++tl=[]:=List.eq_nil_iff_forall_not_mem.2 hno
   obtain ⟨rfl,rfl⟩:=List.append_eq_nil_iff.1 h0
   simp only [evalOps] at he
   cases he
   simp only [evalText] at ht
   cases ht
   exact hQ a w E hr
  ·obtain ⟨hin,o,ho,hpre⟩:=(hready i).1 hi
   obtain ⟨hilt,hil⟩:=(hmem i).1 hin
   have hwait:∀ j,(mk.getD i 0).testBit j=true→j∉is++tl:=by
    intro j hb hj
    have h1:=waits_listed hsz hmk hcl (i+1) i (by omega) (by omega) o ho hpre j hb
    obtain ⟨h2,h3⟩:=(hmem j).1 hj
    have:listed.getD j true=listed.getD j false:=by simp [show j<listed.size by omega]
    rw [this,h1] at h3
    cases h3
   have hset:∀ k,(listed.setIfInBounds i true).getD k true=if k=i then true else listed.getD k true:=by
    intro k
    by_cases hk:k=i
    ·subst hk
     simp [show k<listed.size by omega]
    ·rw [if_neg hk]
     simp [Ne.symm hk]
   have hsetf:∀ k,listed.getD k false=true→(listed.setIfInBounds i true).getD k false=true:=by
    intro k hk
    by_cases hki:k=i
    ·subst hki
     simp [show k<listed.size by omega]
    ·have:(listed.setIfInBounds i true).getD k false=listed.getD k false:=by simp [Ne.symm hki]
     rw [this];exact hk
   have hcl':Closed ops (listed.setIfInBounds i true):=by
    intro k ok hk hok e he' hb
    rw [hset k] at hk
    by_cases hki:k=i
    ·subst hki
     rw [ho] at hok
     cases hok
     exact hsetf e.on (hpre e he' hb)
    ·rw [if_neg hki] at hk
     exact hsetf e.on (hcl k ok hk hok e he' hb)
   cases is with
   | cons i0 is0 =>
    have hiis:i∈i0 :: is0:=by
     rcases List.mem_append.1 hin with h | h
     ·exact h
     ·exact absurd (List.mem_append.2 (.inl List.mem_cons_self)) (hwait i0 (hch i h i0 List.mem_cons_self))
    generalize i0 :: is0=is at *
    obtain ⟨l1,l2,rfl⟩:=List.append_of_mem hiis
    have hm:∀ j,j∈l1→(mk.getD i 0).testBit j=false:=by
     intro j hj
     cases hb:(mk.getD i 0).testBit j with
     | false=>rfl
     | true=>exact absurd (by simp [hj]) (hwait j hb)
    have hndi:(l1++i :: l2).Nodup:=(List.nodup_append.1 hnd).1
    obtain ⟨s1,q1,n1,qr,tr2,hst,hev,_,_,hp2,himp⟩:=take_first l1 l2 he hp hr.pok (fun k hk=>hfr k (List.mem_append.2 (.inl hk))) hndi hm
    have hsub:(l1++l2++tl).Sublist (l1++i :: l2++tl):=by simp
    have hnd2:(l1++l2++tl).Nodup:=List.Nodup.sublist hsub hnd
    have hni:i∉l1++l2++tl:=by
     intro h
     have h':(i :: (l1++l2++tl)).Nodup:=by
      refine (List.Perm.nodup_iff ?_).1 hnd
      simp only [List.append_assoc,List.cons_append]
      exact List.perm_middle
     exact (List.nodup_cons.1 h').1 h
    refine step_sound (fun h=>hF (hintAt_elder h)) hst (himp hq).1 hr hd (hfr i hin) ?_
    intro a' w' E' hr'
    refine ih (l1++l2) tl (by simpa using hsz) hnd2 (fun k=>?_) (by simp at hlen ⊢;omega) hcl' (fun x hx j hj=>hch x hx j (by
     rcases List.mem_append.1 hj with h | h<;>simp [h])) hpw hev (himp hq).2 hp2 ht hq2 hr' (fun k hk=>?_) (by rw [stepOp_t hst];exact hd) hQ
    ·rw [hset k]
     by_cases hk:k=i
     ·subst hk
      rw [if_pos rfl]
      exact ⟨fun h=>absurd h hni,fun h=>by cases h.2⟩
     ·rw [if_neg hk,← hmem k]
      simp [hk]
    ·rw [stepOp_g hst (fun e=>hni (by rw [e];exact hk))]
     exact hfr k (hsub.subset hk)
   | nil =>
    simp only [evalOps] at he
    cases he
    simp only [List.nil_append] at *
    cases tl with
    | nil=>simp at hin
    | cons i0 tl0 =>
     have hi0:i=i0:=by
      rcases List.mem_cons.1 hin with h | h
      ·exact h
      ·exact absurd List.mem_cons_self (hwait i0 ((List.pairwise_cons.1 hpw).1 i h))
     subst hi0
     obtain ⟨hni,hnd'⟩:=List.nodup_cons.1 hnd
     have hmem':∀ k,k∈tl0↔k<ops.size∧(listed.setIfInBounds i true).getD k true=false:=fun k=>by
      rw [hset k]
      by_cases hk:k=i
      ·subst hk
       rw [if_pos rfl]
       exact ⟨fun h=>absurd h hni,fun h=>by cases h.2⟩
      ·rw [if_neg hk,← hmem k]
       simp [hk]
     have go:∀ {s1:S} {qx:List Ask} {E':Env} {a':Act} {w':World},evalText P ops hs tl0 s1=some (sf,qx)→allA qx→RSim B E' ops s1 a' w'→(∀ k,k∈tl0→s1.g[k]?=some none)→Distinct ops s1.t.length→wpAnyIn (FB B.r) 0 P .any ops Q fuel (listed.setIfInBounds i true) a' w':=by
      intro s1 qx E' a' w' hev hqx hr' hfr' hd'
      exact ih [] tl0 (s:=s1) (sm:=s1) (q:=[]) (q2:=qx) (tr:=[]) (by simpa using hsz) hnd' hmem' (by simp at hlen ⊢;omega) hcl' (fun _ _ _ h=>by cases h) (List.pairwise_cons.1 hpw).2 rfl trivial rfl hev hqx hr' hfr' hd' hQ
     simp only [evalText] at ht
     split at ht
     ·rename_i s1 q1 hst
      split at ht
      ·rename_i s2 q2' hev
       cases ht
       obtain ⟨hqa,hqb⟩:=allA_append.1 hq2
       obtain ⟨ht',hg⟩:=stepYield_t hst
       refine stepYield_sound hst hqa hr hd (hfr i List.mem_cons_self) ?_
       intro a' w' E' hr'
       refine go hev hqb hr' (fun k hk=>?_) (by rw [ht'];exact hd)
       rw [hg k (fun e=>hni (by rw [e];exact hk))]
       exact hfr k (List.mem_cons_of_mem _ hk)
      ·cases ht
     ·split at ht
      ·rename_i s1 q1 hst
       split at ht
       ·rename_i s2 q2' hev
        cases ht
        obtain ⟨hqa,hqb⟩:=allA_append.1 hq2
        obtain ⟨ht',hg⟩:=stepOwn_t hst
        refine stepOwn_sound hst hqa hr hd (hfr i List.mem_cons_self) ?_
        intro a' w' E' hr'
        refine go hev hqb hr' (fun k hk=>?_) (by rw [ht'];exact hd)
        rw [hg k (fun e=>hni (by rw [e];exact hk))]
        exact hfr k (List.mem_cons_of_mem _ hk)
       ·cases ht
      ·split at ht
       ·cases ht
       ·rename_i s1 q1 ns1 hst
        split at ht
        ·cases ht
        ·rename_i s2 q2' hev
         cases ht
         obtain ⟨hqa,hqb⟩:=allA_append.1 hq2
         refine step_sound (fun h=>hF (hintAt_elder h)) hst hqa hr hd (hfr i List.mem_cons_self) ?_
         intro a' w' E' hr'
         refine go hev hqb hr' (fun k hk=>?_) (by rw [stepOp_t hst];exact hd)
         rw [stepOp_g hst (fun e=>hni (by rw [e];exact hk))]
         exact hfr k (List.mem_cons_of_mem _ hk)
def noMay:List SV→Bool
 | []=>true
 | .may _ _ :: _=>false
 | _ :: r=>noMay r
def unmay:SV→SV
 | .may _ _=>.junk
 | x=>x
def S.start(s:S)(n:Nat):S:={ s with g:=List.replicate n none }
theorem rsim_start{ops:Array Oper}{s:S}{a:Act}(h:Sim B E s a w)(hm:noMay s.t=true)(n:Nat):RSim B E ops (s.start n) a w:=by
 have hno:∀ (l:List SV),noMay l=true→∀ (k:Nat) (p:Path) (x:SB),l[k]?=some (SV.may p x)→False:=by
  intro l
  induction l with
  | nil=>intro _ k p x h;simp at h
  | cons y l ih =>
   intro hl k p x hk
   cases k with
   | zero=>simp at hk;subst hk;simp [noMay] at hl
   | succ k =>
    have:noMay l=true:=by cases y<;>simp [noMay] at hl ⊢<;>exact hl
    exact ih this k p x (by simpa using hk)
 refine ⟨⟨h.core,h.size,h.defers,fun k x hk=>?_⟩,fun j b hj=>?_,fun k p x hk=>(hno s.t hm k p x hk).elim⟩
 ·have:=h.slot k x hk
  cases x with
  | junk=>trivial
  | b y=>exact this
  | pin k y=>exact this
  | may p y=>exact (hno s.t hm k p y hk).elim
 ·simp only [S.start,List.getElem?_replicate] at hj
  split at hj<;>cases hj
def S.done(s:S):S:={ t:=s.t.map unmay,m:=s.m,g:=[] }
theorem sim_done{ops:Array Oper}{s:S}{a:Act}(h:RSim B E ops s a w):Sim B E s.done a w:=by
 refine ⟨h.sim.core,by simp [S.done];exact h.sim.size,h.sim.defers,fun k x hk=>?_⟩
 simp only [S.done,List.getElem?_map,Option.map_eq_some_iff] at hk
 obtain ⟨y,hy,rfl⟩:=hk
 have:=h.sim.slot k y hy
 cases y with
 | junk=>trivial
 | b y=>exact this
 | pin k y=>exact this
 | may p y=>trivial
def regionOk(ops:Array Oper)(hs:List (Nat×Hint))(n:Nat)(draw:Bool)(tr:List (Nat×List Nat)):Bool:=
 dstOk n ops.toList []&&(!draw||(edgesOk ops.toList 0&&pairsOk ops hs (masks ops.toList []) tr))
def evalRegion(P:Program)(ops:Array Oper)(draw:Bool)(hs:List (Nat×Hint))(s:S):Option (S×List Ask):=
 if noMay s.t then
  match draw with
  | true=>match ownIdx hs ops.size 0 with
   | none=>match evalOps P ops hs (List.range ops.size) (s.start ops.size) with
    | some (s',q,tr)=>if regionOk ops hs s.t.length true tr then some (s'.done,q) else none
    | none=>none
   | some t=>match evalOps P ops hs (List.range t) (s.start ops.size) with
    | some (s',q,tr)=>if regionOk ops hs s.t.length true tr&&Nat.ble t ops.size&&chainOk (masks ops.toList []) ops.size t then (match evalText P ops hs (List.range' t (ops.size - t)) s' with
     | some (s'',q')=>some (s''.done,q++q')
     | none=>none) else none
    | none=>none
  | false=>match evalText P ops hs (List.range ops.size) (s.start ops.size) with
   | some (s',q)=>if dstOk s.t.length ops.toList [] then some (s'.done,q) else none
   | none=>none
 else none
theorem region_sound{id:Nat}{ops:Array Oper}{draw:Bool}{hs:List (Nat×Hint)}{s s':S}{q:List Ask}{a:Act}{Q:Exit→Act→World→Prop}(hF:elderAny hs=true→∀ b,¬ B.W b)(hmix:P.follows .mixedOrders=true)(he:evalRegion P ops draw hs s=some (s',q))(hq:allA q) 
  (hs0:Sim B E s a w) (hQ:∀ a' w' E',Sim B E' s' a' w'→Q .normal a' w'):(Code.region id ops draw).wpIn (FB B.r) 0 P Q a w:=by
 unfold evalRegion at he
 split at he
 case isFalse=>cases he
 rename_i hnm
 have hfr:∀ i,i∈List.range ops.size→(s.start ops.size).g[i]?=some none:=fun i hi=>by
  have:i<ops.size:=by simpa using hi
  simp [S.start,this]
 cases draw with
 | false =>
  simp only at he
  split at he
  case h_2=>cases he
  rename_i s1 q1 hev
  split at he
  case isFalse=>cases he
  rename_i hok
  cases he
  have hd:Distinct ops (s.start ops.size).t.length:=distinct_of hok
  refine wpIn_region (evalText_sound hF (List.range ops.size) hev hq List.nodup_range hfr hd (rsim_start hs0 hnm _) ?_)
  intro a' w' E' hr
  exact hQ a' w' E' (sim_done hr)
 | true =>
  simp only at he
  split at he
  ·split at he
   case h_2=>cases he
   rename_i s1 q1 tr hev
   split at he
   case isFalse=>cases he
   rename_i hok
   cases he
   unfold regionOk at hok
   simp only [Bool.and_eq_true,Bool.or_eq_true,Bool.not_eq_true'] at hok
   have hd:Distinct ops (s.start ops.size).t.length:=distinct_of hok.1
   rcases hok.2 with h | h
   ·cases h
   ·have hbk:EdgesBack ops:=fun i o ho e he hb=>edgesOk_spec ops.toList [] h.1 rfl i o (Nat.zero_le _) (by simpa using ho) e he hb
    obtain ⟨hm1,hm2⟩:=masks_ok (ops:=ops.toList) ops.toList [] [] rfl rfl (fun i j hi=>by simp at hi)
    have hs1:Sim B E s a { w with drawn:=w.drawn+1 }:=⟨{ hs0.core with
      know:=hs0.core.know
      mem:=fun n o h=>(hs0.core.mem n o h).other fun _ _=>rfl },hs0.size,hs0.defers,hs0.slot⟩
    refine wpIn_region_any hmix (any_sound hF hm1 (by simpa using hm2) hbk ops.size (List.range ops.size) (by simp) List.nodup_range (fun i=>?_) (by simp) (fun i o hi ho e _ _=>?_) hev hq h.2 (rsim_start hs1 hnm _) hfr hd ?_)
    ·constructor
     ·intro hi
      have:i<ops.size:=by simpa using hi
      exact ⟨this,by simp [this]⟩
     ·intro hi
      simpa using hi.1
    ·have hlt:i<ops.size:=(Array.getElem?_eq_some_iff.1 ho).1
     simp [hlt] at hi
    ·intro a' w' E' hr
     exact hQ a' w' E' (sim_done hr)
  ·rename_i t htt
   split at he
   case h_2=>cases he
   rename_i s1 q1 tr hev
   split at he
   case isFalse=>cases he
   rename_i hok
   split at he
   case h_2=>cases he
   rename_i s2 q2 hev2
   cases he
   simp only [Bool.and_eq_true,Nat.ble_eq] at hok
   obtain ⟨⟨hok,htn⟩,hch⟩:=hok
   unfold regionOk at hok
   simp only [Bool.and_eq_true,Bool.or_eq_true,Bool.not_eq_true'] at hok
   have hd:Distinct ops (s.start ops.size).t.length:=distinct_of hok.1
   have hsplit:List.range t++List.range' t (ops.size - t)=List.range ops.size:=by
    rw [List.range_eq_range',List.range_eq_range']
    have:=List.range'_append_1 (s:=0) (m:=t) (n:=ops.size - t)
    rw [Nat.zero_add] at this
    rw [this];congr 1;omega
   have hchn:∀ i,i∈List.range' t (ops.size - t)→∀ j,j<i→((masks ops.toList []).getD i 0).testBit j=true:=fun i hi j hj =>
    List.all_eq_true.1 (List.all_eq_true.1 hch i hi) j (by simpa using hj)
   obtain ⟨hqa,hqb⟩:=allA_append.1 hq
   rcases hok.2 with h | h
   ·cases h
   ·have hbk:EdgesBack ops:=fun i o ho e he hb=>edgesOk_spec ops.toList [] h.1 rfl i o (Nat.zero_le _) (by simpa using ho) e he hb
    obtain ⟨hm1,hm2⟩:=masks_ok (ops:=ops.toList) ops.toList [] [] rfl rfl (fun i j hi=>by simp at hi)
    have hs1:Sim B E s a { w with drawn:=w.drawn+1 }:=⟨{ hs0.core with
      know:=hs0.core.know
      mem:=fun n o h=>(hs0.core.mem n o h).other fun _ _=>rfl },hs0.size,hs0.defers,hs0.slot⟩
    refine wpIn_region_any hmix (any_sound2 hF hm1 (by simpa using hm2) hbk ops.size (List.range t) (List.range' t (ops.size - t)) (by simp) (by rw [hsplit];exact List.nodup_range) (fun i=>?_) (by rw [hsplit];simp) (fun i o hi ho e _ _=>?_)
     (fun i hi j hj=>hchn i hi j (by have:=List.mem_range'.1 hi;have:=List.mem_range.1 hj;omega)) ?_ hev hqa h.2 hev2 hqb (rsim_start hs1 hnm _) (by rw [hsplit];exact hfr) hd ?_)
    ·rw [hsplit]
     constructor
     ·intro hi
      have:i<ops.size:=by simpa using hi
      exact ⟨this,by simp [this]⟩
     ·intro hi
      simpa using hi.1
    ·have hlt:i<ops.size:=(Array.getElem?_eq_some_iff.1 ho).1
     simp [hlt] at hi
    ·refine List.Pairwise.imp_of_mem (R:=fun a b=>a<b) (fun ha hb hab=>hchn _ hb _ hab) ?_
     exact List.pairwise_lt_range'
    ·intro a' w' E' hr
     exact hQ a' w' E' (sim_done hr)
end Go.Sym
