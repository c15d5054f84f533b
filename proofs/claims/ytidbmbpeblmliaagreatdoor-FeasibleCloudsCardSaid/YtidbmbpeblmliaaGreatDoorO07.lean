/- Part of the proof of the statement that the claim's last text names: contracts of functions and laws of the symbolic layer. -/
import Derived.Test.YtidbmbpeblmliaaGreatDoorO06
set_option linter.unusedVariables false
set_option linter.unusedSimpArgs false
namespace Go.Sym
open Go.RowKit
variable {P:Program} {B:Base P} {E:Env} {w:World}
def Distinct(ops:Array Oper)(n:Nat):Prop:=
 (∀ (i j:Nat) (oi oj:Oper) (d:Nat),ops[i]?=some oi→ops[j]?=some oj→oi.dst=some d→oj.dst=some d→i=j)∧∀ (i:Nat) (o:Oper) (d:Nat),ops[i]?=some o→o.dst=some d→d<n
theorem holds_set{g:List (Option Bool)}{i:Nat}{x:Option Bool}(hi:g[i]?=some none):∀ {p:Path},PathOk g p→holds (g.set i x) p=holds g p:=by
 intro p
 induction p with
 | nil=>intro _;rfl
 | cons y p ih =>
  intro hp
  obtain ⟨j,b⟩:=y
  obtain ⟨z,hz⟩:=hp j b List.mem_cons_self
  have hne:i≠j:=fun e=>by subst e;rw [hi] at hz;cases hz
  simp only [holds,ih (fun k c h=>hp k c (List.mem_cons_of_mem _ h)),List.getElem?_set,if_neg hne]
theorem pathOk_set{g:List (Option Bool)}{i:Nat}{x:Option Bool}(hi:g[i]?=some none){p:Path}(hp:PathOk g p):PathOk (g.set i x) p:=by
 intro j b h
 obtain ⟨z,hz⟩:=hp j b h
 have hne:i≠j:=fun e=>by subst e;rw [hi] at hz;cases hz
 exact ⟨z,by rw [List.getElem?_set,if_neg hne];exact hz⟩
theorem setSlot_get{t:List SV}{d:Option Nat}{x y:SV}{k:Nat}(h:(setSlot t d x)[k]?=some y):(d=some k∧y=x∧k<t.length)∨(d≠some k∧t[k]?=some y):=by
 unfold setSlot at h
 cases d with
 | none=>exact .inr ⟨by simp,h⟩
 | some d =>
  simp only [List.getElem?_set] at h
  by_cases hk:d=k
  ·subst hk
   rw [if_pos rfl] at h
   split at h
   ·rename_i hl
    exact .inl ⟨rfl,(Option.some.inj h).symm,hl⟩
   ·cases h
  ·rw [if_neg hk] at h
   exact .inr ⟨fun e=>hk (Option.some.inj e),h⟩
theorem setSlot_length(t:List SV)(d:Option Nat)(x:SV):(setSlot t d x).length=t.length:=by
 cases d<;>simp [setSlot]
theorem setSlot_same{t:List SV}{d:Nat}{x:SV}(h:d<t.length):(setSlot t (some d) x)[d]?=some x:=by
 simp [setSlot,h]
theorem setSlot_other{t:List SV}{d:Option Nat}{x:SV}{k:Nat}(h:d≠some k):(setSlot t d x)[k]?=t[k]?:=by
 cases d with
 | none=>rfl
 | some d =>
  have:d≠k:=fun e=>h (by rw [e])
  simp [setSlot,this]
theorem slotOf_may{p q:Path}{v x:SB}(h:slotOf p v=.may q x):q=p∧x=v∧p≠[]:=by
 cases p with
 | nil=>simp [slotOf] at h
 | cons y p=>simp only [slotOf] at h;cases h;exact ⟨rfl,rfl,by simp⟩
theorem pok_put{s:S}{i:Nat}{d:Option Nat}{p:Path}{v:SB}{m':List (Option MO)}{x:Option Bool}(hpok:POk s)(hi:s.g[i]?=some none)(hp:PathOk s.g p):
  POk { t:=setSlot s.t d (slotOf p v),m:=m',g:=s.g.set i x }:=by
 intro k q y hk
 rcases setSlot_get hk with ⟨_,hy,_⟩ | ⟨_,hk'⟩
 ·obtain ⟨rfl,rfl,hne⟩:=slotOf_may hy.symm
  exact ⟨pathOk_set hi hp,hne⟩
 ·obtain ⟨h1,h2⟩:=hpok k q y hk'
  exact ⟨pathOk_set hi h1,h2⟩
theorem put_getD{a:Act}{d:Option Nat}{u:Value}{k:Nat}(h:d≠some k):(a.put d u).tmps.getD k undef=a.tmps.getD k undef:=by
 cases d with
 | none=>rfl
 | some d =>
  have:d≠k:=fun e=>h (by rw [e])
  simp [Act.put,this]
theorem put_getD_same{a:Act}{d:Nat}{u:Value}(h:d<a.tmps.size):(a.put (some d) u).tmps.getD d undef=u:=by
 simp [Act.put,h]
theorem put_size{a:Act}{d:Option Nat}{u:Value}:(a.put d u).tmps.size=a.tmps.size:=by
 cases d<;>simp [Act.put]
theorem put_defers'{a:Act}{d:Option Nat}{u:Value}:(a.put d u).defers=a.defers:=by
 cases d<;>rfl
theorem rsim_put{ops:Array Oper}{s:S}{a:Act}{i:Nat}{o:Oper}{p:Path}{v:SB}{u:Value}{m':List (Option MO)}{w':World}{E':Env}(hs:RSim B E ops s a w)(hd:Distinct ops s.t.length) 
  (hi:s.g[i]?=some none) (ho:ops[i]?=some o) (hp:PathOk s.g p) (hle:E.Le E') (hc:Core B E' m' w') (h1:holds s.g p=true→RelSB E' v u) (h0:holds s.g p=false→u=undef) :
  RSim B E' ops { t:=setSlot s.t o.dst (slotOf p v),m:=m',g:=s.g.set i (outcomeAt o.dst v) } (a.put o.dst u) w':=by
 refine ⟨⟨hc,?_,?_,?_⟩,?_,pok_put hs.pok hi hp⟩
 ·rw [put_size,setSlot_length];exact hs.sim.size
 ·rw [put_defers',hle.c];exact hs.sim.defers
 ·intro k x hk
  rcases setSlot_get hk with ⟨hdst,rfl,hlt⟩ | ⟨hdst,hk'⟩
  ·rw [hdst,put_getD_same (by rw [hs.sim.size];exact hlt)]
   cases p with
   | nil=>exact h1 rfl
   | cons y p =>
    show (holds _ (y :: p)=true→RelSB E' v u)∧(holds _ (y :: p)=false→u=undef)
    rw [holds_set hi hp]
    exact ⟨h1,h0⟩
  ·rw [put_getD hdst]
   have hold:=(hs.sim.slot k x hk').mono hle
   cases x with
   | junk=>trivial
   | b y=>exact hold
   | pin k y=>exact hold
   | may q y =>
    show (holds _ q=true→_)∧(holds _ q=false→_)
    rw [holds_set hi (hs.pok k q y hk').1]
    exact hold
 ·intro j b hj
  simp only [List.getElem?_set] at hj
  by_cases hij:i=j
  ·subst hij
   rw [if_pos rfl] at hj
   split at hj
   ·have hob:outcomeAt o.dst v=some b:=Option.some.inj hj
    cases hdst:o.dst with
    | none=>simp [hdst,outcomeAt] at hob
    | some d =>
     simp only [hdst,outcomeAt] at hob
     have hv:v=.v (.c (.bool b)):=by
      unfold outcome at hob
      split at hob
      ·cases hob;rfl
      ·cases hob
     subst hv
     refine ⟨o,d,ho,hdst,?_⟩
     have hlt:=hd.2 i o d ho hdst
     rw [setSlot_same hlt]
     cases p with
     | nil=>exact .inl rfl
     | cons y p=>exact .inr ⟨y :: p,rfl⟩
   ·cases hj
  ·rw [if_neg hij] at hj
   obtain ⟨oj,d,hoj,hdj,hsl⟩:=hs.gok j b hj
   refine ⟨oj,d,hoj,hdj,?_⟩
   have:o.dst≠some d:=fun e=>hij (hd.1 i j o oj d ho hoj e hdj)
   rw [setSlot_other this]
   exact hsl
theorem stepOp_some{ops:Array Oper}{i:Nat}{h:Hint}{s s':S}{q:List Ask}{ns:List Nat}(hst:stepOp P ops i h s=some (s',q,ns)):
  ∃ o pl v ms q',ops[i]?=some o∧planOf ops o s=some pl∧(Op.wr o.op h&&guarded pl.path&&!holds s.g pl.path)=false∧pl.run P o s.m h=some (v,ms,q') ∧
   s'={ t:=setSlot s.t o.dst (slotOf pl.path v),m:=(if Op.wr o.op h then putM s.m (pl.names o) ms else s.m),g:=s.g.set i (outcomeAt o.dst v) }∧q=askOf s.g pl.path q'∧ns=pl.names o:=by
 unfold stepOp at hst
 split at hst
 ·cases hst
 ·rename_i o ho
  split at hst
  ·cases hst
  ·rename_i pl hpl
   split at hst
   ·cases hst
   ·rename_i hg
    split at hst
    ·cases hst
    ·rename_i v ms q' hr
     cases hst
     exact ⟨o,pl,v,ms,q',ho,hpl,by simpa using hg,hr,rfl,rfl,rfl⟩
theorem planOf_path{ops:Array Oper}{o:Oper}{s:S}{pl:Plan}(h:planOf ops o s=some pl):guardPath ops s o=some pl.path:=by
 unfold planOf at h
 split at h
 ·cases h
 ·rename_i p hp
  split at h
  ·split at h
   ·cases h;exact hp
   ·cases h
  ·split at h
   ·cases h;exact hp
   ·cases h
theorem guarded_iff{p:Path}:guarded p=false↔p=[]:=by cases p<;>simp [guarded]
theorem step_sound{ops:Array Oper}{i:Nat}{h:Hint}{s s':S}{q:List Ask}{ns:List Nat}{a:Act}(hF:h.elder=true→∀ b,¬ B.W b)(hst:stepOp P ops i h s=some (s',q,ns))(hq:allA q)(hs:RSim B E ops s a w)(hd:Distinct ops s.t.length)(hi:s.g[i]?=some none) 
  {K:Act→World→Prop} {Q:Exit→Act→World→Prop} (hK:∀ a' w' E',RSim B E' ops s' a' w'→K a' w'):wpOpIn (FB B.r) 0 P ops Q i K a w:=by
 obtain ⟨o,pl,v,ms,q',ho,hpl,hwg,hrun,rfl,rfl,rfl⟩:=stepOp_some hst
 have hgp:=planOf_path hpl
 obtain ⟨hw,hpok⟩:=wanted_iff hs hgp
 unfold wpOpIn
 simp only [ho]
 rw [hw]
 cases hh:holds s.g pl.path with
 | false =>
  simp only [Bool.false_eq_true,if_false]
  have hne:pl.path≠[]:=fun e=>by rw [e] at hh;cases hh
  have hwr:Op.wr o.op h=false:=by
   cases hx:Op.wr o.op h with
   | false=>rfl
   | true =>
    rw [hx,hh] at hwg
    have:=guarded_iff.1 (by simpa using hwg)
    exact absurd this hne
  refine ⟨fun _ _=>trivial,hK _ w E ?_⟩
  simp only [hwr,Bool.false_eq_true,if_false]
  exact rsim_put hs hd hi ho hpok (Env.Le.refl E) hs.sim.core (fun e=>by rw [hh] at e;cases e) (fun _=>rfl)
 | true =>
  simp only [if_true]
  have hq':allP q':=allA_askOf hq hh
  cases pl with
  | pick p x =>
   simp only [Plan.run] at hrun
   cases hrun
   have hpick:∃ c y z,o.op=.pick c y z∧pickVal ops s p c y z=some v:=by
    unfold planOf at hpl
    rw [hgp] at hpl
    simp only [Plan.path] at hpl
    split at hpl
    ·rename_i c y z hop
     split at hpl
     ·rename_i v' hv'
      cases hpl
      exact ⟨c,y,z,hop,hv'⟩
     ·cases hpl
    ·split at hpl<;>cases hpl
   obtain ⟨c,y,z,hop,hpv⟩:=hpick
   obtain ⟨b,hb,hrel⟩:=pick_rel hs hh hpv
   have hwr:Op.wr o.op h=false:=Op.wr_le (by rw [hop];rfl)
   refine wpIn_of (by intro c hc;rw [hop] at hc;cases hc) ?_
   have hex:(execOp a.eval o).run P w=.ok (.value (if b then a.eval y else a.eval z)) w:=by
    simp only [execOp,hop,hb,asBool,Sem.run_bind,Sem.run_pure,Result.andThen_ok]
   rw [hex]
   refine hK _ w E ?_
   simp only [hwr,Bool.false_eq_true,if_false]
   exact rsim_put hs hd hi ho hpok (Env.Le.refl E) hs.sim.core (fun _=>hrel) (fun e=>by rw [hh] at e;cases e)
  | op p vs =>
   have hvals:evAll s p o.op.operands.toList=some vs:=by
    unfold planOf at hpl
    rw [hgp] at hpl
    simp only [Plan.path] at hpl
    split at hpl
    ·split at hpl<;>cases hpl
    ·split at hpl
     ·rename_i vs' hv'
      cases hpl
      exact hv'
     ·cases hpl
   have hv:=evAll_rel hs.sim hh hvals
   refine act_sound hF hs.sim.core hv hrun hq' _ _ ?_
   intro u w' E' hle hc hu
   exact hK _ w' E' (rsim_put hs hd hi ho hpok hle hc (fun _=>hu) (fun e=>by rw [hh] at e;cases e))
theorem stepOp_t{ops:Array Oper}{i:Nat}{h:Hint}{s s':S}{q:List Ask}{ns:List Nat}(hst:stepOp P ops i h s=some (s',q,ns)):s'.t.length=s.t.length:=by
 obtain ⟨o,pl,v,ms,q',ho,hpl,hwg,hrun,rfl,rfl,rfl⟩:=stepOp_some hst
 exact setSlot_length _ _ _
theorem stepOp_g{ops:Array Oper}{i j:Nat}{h:Hint}{s s':S}{q:List Ask}{ns:List Nat}(hst:stepOp P ops i h s=some (s',q,ns))(hj:i≠j):s'.g[j]?=s.g[j]?:=by
 obtain ⟨o,pl,v,ms,q',ho,hpl,hwg,hrun,rfl,rfl,rfl⟩:=stepOp_some hst
 simp [hj]
theorem hintAt_elder:∀ {hs:List (Nat×Hint)} {i:Nat},(hintAt hs i).elder=true→elderAny hs=true:=by
 intro hs
 induction hs with
 | nil=>intro i h;cases h
 | cons p hs ih =>
  intro i h
  obtain ⟨j,x⟩:=p
  simp only [hintAt] at h
  simp only [elderAny,List.any_cons,Bool.or_eq_true]
  split at h
  ·exact .inl h
  ·exact .inr (ih h)
end Go.Sym
namespace Go.Sym
open Go.RowKit
variable {P:Program} {B:Base P} {E:Env} {w:World}
theorem findDst_looks{ops:Array Oper}{o:Oper}{c a b:Operand}{tc:Nat}(hop:o.op=.pick c a b)(hc:c=.tmp tc):tc∈o.looksAt ops:=by
 unfold Oper.looksAt
 subst hc
 simp [hop,Op.operands]
theorem looks_operand{ops:Array Oper}{o:Oper}{t:Nat}(h:Operand.tmp t∈o.op.operands.toList):t∈o.looksAt ops:=by
 unfold Oper.looksAt
 rw [List.mem_append]
 left
 rw [List.mem_filterMap]
 exact ⟨.tmp t,h,rfl⟩
structure Agree (ops:Array Oper) (o:Oper) (s s':S):Prop where
 t:∀ k,k∈o.looksAt ops→s'.t[k]?=s.t[k]?
 g:∀ (j:Nat) (x:Oper) (d:Nat),ops[j]?=some x→x.dst=some d→d∈o.looksAt ops→s'.g[j]?=s.g[j]?
theorem guardPath_agree{ops:Array Oper}{o:Oper}{s s':S}(h:Agree ops o s s'):guardPath ops s' o=guardPath ops s o:=by
 unfold guardPath
 cases hg:o.guard with
 | none=>rfl
 | some jw =>
  obtain ⟨j,want⟩:=jw
  simp only
  cases hd:(ops[j]?).bind (·.dst) with
  | none=>rfl
  | some d =>
   have hl:d∈o.looksAt ops:=by
    unfold Oper.looksAt
    rw [List.mem_append]
    right
    simp [hg,hd]
   cases hj:ops[j]? with
   | none=>simp [hj] at hd
   | some x =>
    have hxd:x.dst=some d:=by simpa [hj] using hd
    rw [h.g j x d hj hxd hl]
    cases s.g[j]? with
    | none=>rfl
    | some b=>cases b with
     | none=>rfl
     | some b=>simp only [h.t d hl]
theorem ev_agree{ops:Array Oper}{o:Oper}{s s':S}(h:Agree ops o s s'){p:Path}{x:Operand}(hx:x∈o.op.operands.toList):s'.ev p x=s.ev p x:=by
 cases x with
 | tmp t=>simp only [S.ev,h.t t (looks_operand hx)]
 | _=>rfl
theorem evAll_agree{ops:Array Oper}{o:Oper}{s s':S}(h:Agree ops o s s'){p:Path}:∀ {xs:List Operand},(∀ x,x∈xs→x∈o.op.operands.toList)→evAll s' p xs=evAll s p xs:=by
 intro xs
 induction xs with
 | nil=>intro _;rfl
 | cons x xs ih =>
  intro hx
  simp only [evAll,ev_agree h (hx x List.mem_cons_self),ih (fun y hy=>hx y (List.mem_cons_of_mem _ hy))]
theorem armOf_agree{ops:Array Oper}{o:Oper}{s s':S}(h:Agree ops o s s'){p q:Path}{x:Operand}(hx:x∈o.op.operands.toList):armOf s' p q x=armOf s p q x:=by
 cases x with
 | tmp t=>simp only [armOf,h.t t (looks_operand hx)]
 | _=>rfl
theorem arms_agree{ops:Array Oper}{o:Oper}{s s':S}(h:Agree ops o s s'){p q:Path}{a b:Operand}{x:Bool}{j:Nat}(ha:a∈o.op.operands.toList)(hb:b∈o.op.operands.toList):
  pickArms s' p a b x j q=pickArms s p a b x j q:=by
 unfold pickArms
 split
 ·rw [armOf_agree h hb]
 ·rw [armOf_agree h ha]
 ·rfl
theorem pickVal_agree{ops:Array Oper}{o:Oper}{s s':S}(h:Agree ops o s s'){p:Path}{c a b:Operand}(hop:o.op=.pick c a b):pickVal ops s' p c a b=pickVal ops s p c a b:=by
 have ha:a∈o.op.operands.toList:=by rw [hop];simp [Op.operands]
 have hb:b∈o.op.operands.toList:=by rw [hop];simp [Op.operands]
 cases c with
 | tmp tc =>
  have hl:tc∈o.looksAt ops:=findDst_looks hop rfl
  unfold pickVal
  cases hf:findDst ops tc with
  | none=>simp [hf]
  | some j =>
   obtain ⟨x,hx,hd⟩:=findDst_some hf
   simp only [hf]
   rw [h.t tc hl,h.g j x tc hx hd hl]
   simp only [arms_agree h ha hb]
 | _=>rfl
theorem planOf_agree{ops:Array Oper}{o:Oper}{s s':S}(h:Agree ops o s s'):planOf ops o s'=planOf ops o s:=by
 unfold planOf
 rw [guardPath_agree h]
 cases guardPath ops s o with
 | none=>rfl
 | some p =>
  simp only
  cases hop:o.op with
  | pick c a b=>simp only [pickVal_agree h hop]
  | _ =>
   simp only
   rw [← hop,evAll_agree h (fun x hx=>hx)]
theorem getM_putM{n:Nat}:∀ {ns:List Nat} {ms:List (Option (Option MO))} {m:List (Option MO)},n∉ns→getM (putM m ns ms) n=getM m n:=by
 intro ns
 induction ns with
 | nil=>intro ms m _;cases ms<;>rfl
 | cons k ns ih =>
  intro ms m hn
  cases ms with
  | nil=>rfl
  | cons x ms =>
   cases x with
   | none=>rfl
   | some x =>
    simp only [putM]
    rw [ih (fun h=>hn (List.mem_cons_of_mem _ h))]
    have:k≠n:=fun e=>hn (by rw [e];exact List.mem_cons_self)
    simp [getM,this]
theorem set_comm'{m:List (Option MO)}{i j:Nat}{x y:Option MO}(h:i≠j):(m.set i x).set j y=(m.set j y).set i x:=List.set_comm x y h
theorem putM_set{k:Nat}{x:Option MO}:∀ {ns:List Nat} {ms:List (Option (Option MO))} {m:List (Option MO)},k∉ns→putM (m.set k x) ns ms=(putM m ns ms).set k x:=by
 intro ns
 induction ns with
 | nil=>intro ms m _;cases ms<;>rfl
 | cons j ns ih =>
  intro ms m hn
  cases ms with
  | nil=>rfl
  | cons y ms =>
   cases y with
   | none=>rfl
   | some y =>
    simp only [putM]
    have:k≠j:=fun e=>hn (by rw [e];exact List.mem_cons_self)
    rw [set_comm' this,ih (fun h=>hn (List.mem_cons_of_mem _ h))]
theorem putM_comm{ns':List Nat}{ms':List (Option (Option MO))}:∀ {ns:List Nat} {ms:List (Option (Option MO))} {m:List (Option MO)},(∀ k,k∈ns→k∉ns')→putM (putM m ns ms) ns' ms'=putM (putM m ns' ms') ns ms:=by
 intro ns
 induction ns with
 | nil=>intro ms m _;cases ms<;>rfl
 | cons k ns ih =>
  intro ms m h
  cases ms with
  | nil=>rfl
  | cons x ms =>
   cases x with
   | none=>rfl
   | some x =>
    simp only [putM]
    rw [ih (fun j hj=>h j (List.mem_cons_of_mem _ hj)),putM_set (h k List.mem_cons_self)]
theorem setSlot_comm{t:List SV}{d e:Option Nat}{x y:SV}(h:∀ k,d=some k→e≠some k):setSlot (setSlot t d x) e y=setSlot (setSlot t e y) d x:=by
 cases d with
 | none=>rfl
 | some d=>cases e with
  | none=>rfl
  | some e =>
   have:d≠e:=fun q=>h d rfl (by rw [q])
   simp only [setSlot]
   exact List.set_comm x y this
theorem disjoint_spec:∀ {ns ms:List Nat},disjoint ns ms=true→∀ k,k∈ns→k∉ms:=by
 intro ns
 induction ns with
 | nil=>intro ms _ k hk;cases hk
 | cons n ns ih =>
  intro ms h k hk
  simp only [disjoint,Bool.and_eq_true,Bool.not_eq_true'] at h
  rcases List.mem_cons.1 hk with rfl | hk
  ·intro hm
   have:=h.1
   rw [List.any_eq_false] at this
   exact this k hm (by simp)
  ·exact ih h.2 k hk
theorem agree_after{ops:Array Oper}{i:Nat}{o y:Oper}{s:S}{p:Path}{v:SB}{m':List (Option MO)}(ho:ops[i]?=some o)(hl:∀ d,o.dst=some d→d∉y.looksAt ops):
  Agree ops y s { t:=setSlot s.t o.dst (slotOf p v),m:=m',g:=s.g.set i (outcomeAt o.dst v) }:=by
 refine ⟨fun k hk=>?_,fun j x d hx hd hk=>?_⟩
 ·exact setSlot_other (fun e=>hl k e hk)
 ·have:i≠j:=fun e=>by
   subst e
   rw [ho] at hx
   cases hx
   exact hl d hd hk
  simp [this]
theorem askOf_set{g:List (Option Bool)}{i:Nat}{x:Option Bool}{p:Path}{q:List Prop}(hi:g[i]?=some none)(hp:PathOk g p):askOf (g.set i x) p q=askOf g p q:=by
 simp only [askOf,holds_set hi hp]
theorem guardPath_pathOk{ops:Array Oper}{s:S}{o:Oper}{p:Path}(hpok:POk s)(h:guardPath ops s o=some p):PathOk s.g p:=by
 unfold guardPath at h
 split at h
 ·cases h;intro j b h;cases h
 ·rename_i j want hg
  split at h
  ·rename_i d b hd hj
   split at h
   ·cases h
    intro j' b' h'
    simp only [List.mem_singleton,Prod.mk.injEq] at h'
    rw [h'.1];exact ⟨b,hj⟩
   ·rename_i q x hslot
    cases h
    intro j' b' h'
    rcases List.mem_cons.1 h' with h' | h'
    ·cases h';exact ⟨b,hj⟩
    ·exact (hpok d _ _ hslot).1 j' b' h'
   ·cases h
  ·cases h
theorem diamond{ops:Array Oper}{i j:Nat}{hi hj:Hint}{s s1 s2:S}{qi qj:List Ask}{ni nj:List Nat}(hpok:POk s)(hfi:s.g[i]?=some none)(hfj:s.g[j]?=some none)(hij:j≠i) 
  (h1:stepOp P ops j hj s=some (s1,qj,nj)) (h2:stepOp P ops i hi s1=some (s2,qi,ni)) (hind:indep ops j nj i ni=true) :
  ∃ s1',stepOp P ops i hi s=some (s1',qi,ni)∧stepOp P ops j hj s1'=some (s2,qj,nj):=by
 obtain ⟨oj,plj,vj,msj,qj',hoj,hplj,hwj,hrj,rfl,rfl,rfl⟩:=stepOp_some h1
 obtain ⟨oi,pli,vi,msi,qi',hoi,hpli,hwi,hri,rfl,rfl,rfl⟩:=stepOp_some h2
 unfold indep at hind
 simp only [hoj,hoi,Bool.and_eq_true,Bool.or_eq_true,Bool.not_eq_true'] at hind
 obtain ⟨hap,hmem⟩:=hind
 obtain ⟨a1,a2,a3⟩:=Oper.apart_spec hap
 have hplj':=planOf_path hplj
 have hpoj:=guardPath_pathOk hpok hplj'
 have hag:=agree_after (s:=s) (p:=plj.path) (v:=vj) (m':=if Op.wr oj.op hj then putM s.m (plj.names oj) msj else s.m) hoj (fun d hd=>a1 d hd)
 rw [planOf_agree hag] at hpli
 have hpoi:=guardPath_pathOk hpok (planOf_path hpli)
 have hwi':(Op.wr oi.op hi&&guarded pli.path&&!holds s.g pli.path)=false:=by
  have:holds (s.g.set j (outcomeAt oj.dst vj)) pli.path=holds s.g pli.path:=holds_set hfj hpoi
  rw [← this];exact hwi
 have hwj':(Op.wr oj.op hj&&guarded plj.path&&!holds (s.g.set i (outcomeAt oi.dst vi)) plj.path)=false:=by
  rw [holds_set hfi hpoj];exact hwj
 have hmi:(Plan.names oi pli).map (getM (if Op.wr oj.op hj then putM s.m (plj.names oj) msj else s.m))=(Plan.names oi pli).map (getM s.m):=by
  cases hwo:Op.wr oj.op hj with
  | false=>rfl
  | true =>
   simp only [if_true]
   apply List.map_congr_left
   intro k hk
   rcases hmem with ⟨h,_⟩ | h
   ·rw [Op.wr_le h] at hwo;cases hwo
   ·exact getM_putM (fun hk'=>disjoint_spec h k hk' hk)
 have hri':pli.run P oi s.m hi=some (vi,msi,qi'):=by
  cases pli with
  | pick p x=>exact hri
  | op p vs =>
   simp only [Plan.run] at hri ⊢
   change List.map _ (Op.names oi.op oi.dst vs)=List.map _ (Op.names oi.op oi.dst vs) at hmi
   rw [hmi] at hri
   exact hri
 have hst1:stepOp P ops i hi s=some ({ t:=setSlot s.t oi.dst (slotOf pli.path vi),m:=(if Op.wr oi.op hi then putM s.m (pli.names oi) msi else s.m),g:=s.g.set i (outcomeAt oi.dst vi) },askOf s.g pli.path qi',pli.names oi):=by
  unfold stepOp
  simp only [hoi,hpli,hwi',hri',Bool.false_eq_true,if_false]
 refine ⟨{ t:=setSlot s.t oi.dst (slotOf pli.path vi),m:=(if Op.wr oi.op hi then putM s.m (pli.names oi) msi else s.m),g:=s.g.set i (outcomeAt oi.dst vi) },?_,?_⟩
 ·rw [hst1]
  have:askOf (s.g.set j (outcomeAt oj.dst vj)) pli.path qi'=askOf s.g pli.path qi':=askOf_set hfj hpoi
  rw [this]
 ·have hag':=agree_after (s:=s) (y:=oj) (p:=pli.path) (v:=vi) (m':=if Op.wr oi.op hi then putM s.m (pli.names oi) msi else s.m) hoi (fun d hd=>a3 d hd)
  have hplj2:=(planOf_agree hag').trans hplj
  have hmj:(Plan.names oj plj).map (getM (if Op.wr oi.op hi then putM s.m (pli.names oi) msi else s.m))=(Plan.names oj plj).map (getM s.m):=by
   cases hwo:Op.wr oi.op hi with
   | false=>rfl
   | true =>
    simp only [if_true]
    apply List.map_congr_left
    intro k hk
    rcases hmem with ⟨_,h⟩ | h
    ·rw [Op.wr_le h] at hwo;cases hwo
    ·exact getM_putM (fun hk'=>disjoint_spec h k hk hk')
  have hrj':plj.run P oj (if Op.wr oi.op hi then putM s.m (pli.names oi) msi else s.m) hj=some (vj,msj,qj'):=by
   cases plj with
   | pick p x=>exact hrj
   | op p vs =>
    simp only [Plan.run] at hrj ⊢
    change List.map _ (Op.names oj.op oj.dst vs)=List.map _ (Op.names oj.op oj.dst vs) at hmj
    rw [hmj]
    exact hrj
  unfold stepOp
  simp only [hoj,hplj2,hwj',hrj',Bool.false_eq_true,if_false]
  have e1:askOf (s.g.set i (outcomeAt oi.dst vi)) plj.path qj'=askOf s.g plj.path qj':=askOf_set hfi hpoj
  have e2:setSlot (setSlot s.t oi.dst (slotOf pli.path vi)) oj.dst (slotOf plj.path vj)=setSlot (setSlot s.t oj.dst (slotOf plj.path vj)) oi.dst (slotOf pli.path vi):=
   setSlot_comm (fun k hk hk'=>a2 k hk' hk)
  have e3:(s.g.set i (outcomeAt oi.dst vi)).set j (outcomeAt oj.dst vj)=(s.g.set j (outcomeAt oj.dst vj)).set i (outcomeAt oi.dst vi):=List.set_comm _ _ (fun e=>hij e.symm)
  have e4:(if Op.wr oj.op hj then putM (if Op.wr oi.op hi then putM s.m (pli.names oi) msi else s.m) (plj.names oj) msj else (if Op.wr oi.op hi then putM s.m (pli.names oi) msi else s.m)) =
    (if Op.wr oi.op hi then putM (if Op.wr oj.op hj then putM s.m (plj.names oj) msj else s.m) (pli.names oi) msi else (if Op.wr oj.op hj then putM s.m (plj.names oj) msj else s.m)):=by
   cases hw1:Op.wr oj.op hj<;>cases hw2:Op.wr oi.op hi<;>simp only [Bool.false_eq_true,if_false,if_true]
   rcases hmem with ⟨h,_⟩ | h
   ·rw [Op.wr_le h] at hw1;cases hw1
   ·exact putM_comm (fun k hk hk'=>disjoint_spec h k hk' hk)
  rw [e1,e2,e3,e4]
theorem ck_som{b:Bool}{g r:Got}(h:(ck b g)=r)(hr:r≠none):b=true∧g=r:=by
 cases b with
 | true=>exact ⟨rfl,h⟩
 | false=>exact absurd h.symm hr
theorem look_entry{t:TypeId}{n:Nat}{key:SB}{m:List (Option MO)}{hj hi:Hint}{vj vi:SB}{msj msi:List (Option (Option MO))}{qj qi:List Prop}(hint:hintPair hj hi=true) 
  (h1:actLookup P t false [.v (.c (.omap n)),key] [getM m n] hj=some (vj,msj,qj)) (h2:actEntry P t [.v (.c (.omap n)),key] [getM m n] hi=some (vi,msi,qi)) :
  ∃ o o' msj' qj',getM m n=some (some o)∧msi=[some (some o')]∧actLookup P t false [.v (.c (.omap n)),key] [some (some o')] hj=some (vj,msj',qj')∧(allP qi→allP qj→allP qj'):=by
 unfold actEntry at h2
 split at h2
 case h_2=>cases h2
 rename_i kt et hu
 split at h2
 case h_2=>cases h2
 rename_i n' key' kagg agg ents oi ci e1 e2
 simp only [List.cons.injEq,SB.v.injEq,CV.c.injEq,C.omap.injEq,and_true] at e1
 obtain ⟨rfl,rfl⟩:=e1
 have hm:getM m n=some (some (.omap kagg agg ents)):=(List.cons.inj e2).1
 rw [hm] at h1
 simp only [actLookup,hu] at h1
 split at h2
 case h_2=>cases h2
 rename_i kc hkc
 split at h2
 case h_2=>cases h2
 rename_i fs hfs
 cases hj with
 | key oj cj =>
  simp only at h1
  cases oj with
  | some a =>
   cases oi with
   | none=>simp [hintPair] at hint
   | some b =>
    simp only at h2
    obtain ⟨_,h2⟩:=ck_som h2 (by simp)
    cases h2
    exact ⟨_,_,msj,qj,hm,rfl,by simp only [actLookup,hu];simpa using h1,fun _ h=>h⟩
  | none =>
   cases cj with
   | nil=>simp [hintPair] at hint
   | cons c cj =>
   cases oi with
   | some b=>simp [hintPair] at hint
   | none =>
    simp only at h2
    split at h2
    case h_2=>cases h2
    rename_i z zc hz
    cases h2
    simp only [actLookK,hkc,hfs,hz] at h1
    cases h1
    refine ⟨_,_,_,[KeyTy P kt kagg fs,KeyNo (ents++[(kc,zc)]) kc∨∃ i,KeyAt (ents++[(kc,zc)]) kc i∧((ents++[(kc,zc)]).getD i ([],[])).2=zc],hm,rfl,by simp only [actLookup,hu,actLookK,hkc,hfs,hz];rfl,fun hqi hqj=>?_⟩
    obtain ⟨q1,_⟩:=allP_cons.1 hqj
    obtain ⟨_,q2⟩:=allP_cons.1 hqi
    have hno:KeyNo ents kc:=q2
    refine allP_cons.2 ⟨q1,.inr ⟨ents.length,⟨by simp,fun j hj=>?_,by simp [gE]⟩,by simp [gE]⟩⟩
    have:=hno j hj
    rwa [show (ents++[(kc,zc)]).getD j ([],[])=ents.getD j ([],[]) by simp only [gE];rw [List.getElem?_append_left hj]]
 | _=>simp [hintPair] at hint
theorem allA_of{g:List (Option Bool)}{p:Path}{q:List Prop}(h:allP q):allA (askOf g p q):=by
 induction q with
 | nil=>trivial
 | cons x q ih =>
  obtain ⟨h1,h2⟩:=allP_cons.1 h
  exact ⟨fun _=>h1,ih h2⟩
theorem sameTmp_eq{x y:Operand}(h:sameTmp x y=true):y=x:=by
 unfold sameTmp at h
 split at h
 ·rw [Nat.eq_of_beq_eq_true h]
 ·cases h
theorem evAll_two{s:S}{p:Path}{x y:Operand}{vs:List SB}(h:evAll s p [x,y]=some vs):∃ a b,vs=[a,b]:=by
 simp only [evAll] at h
 split at h
 ·rename_i v vs' h1 h2
  split at h2
  ·rename_i v2 vs2 h3 h4
   cases h4;cases h2;cases h
   exact ⟨_,_,rfl⟩
  ·cases h2
 ·cases h
theorem diamond_map{ops:Array Oper}{hs:List (Nat×Hint)}{i j:Nat}{s s1 s2:S}{qi qj:List Ask}{ni nj:List Nat}(_hpok:POk s)(_hfi:s.g[i]?=some none)(_hfj:s.g[j]?=some none)(hij:j≠i) 
  (h1:stepOp P ops j (hintAt hs j) s=some (s1,qj,nj)) (h2:stepOp P ops i (hintAt hs i) s1=some (s2,qi,ni)) (hp:mapPair ops hs j i=true) :
  ∃ s1' qi' qj',stepOp P ops i (hintAt hs i) s=some (s1',qi',ni)∧stepOp P ops j (hintAt hs j) s1'=some (s2,qj',nj)∧(allA qj→allA qi→allA qi'∧allA qj'):=by
 obtain ⟨oj,plj,vj,msj,qj',hoj,hplj,hwj,hrj,rfl,rfl,rfl⟩:=stepOp_some h1
 obtain ⟨oi,pli,vi,msi,qi',hoi,hpli,hwi,hri,rfl,rfl,rfl⟩:=stepOp_some h2
 unfold mapPair at hp
 simp only [hoj,hoi,Bool.and_eq_true] at hp
 obtain ⟨⟨⟨hap,hgj⟩,hgi⟩,hp⟩:=hp
 split at hp
 case h_2=>cases hp
 rename_i t m k t' m' k' hopj hopi
 simp only [Bool.and_eq_true] at hp
 obtain ⟨⟨⟨ht,hm⟩,hk⟩,hint⟩:=hp
 have ht':=Nat.eq_of_beq_eq_true ht
 subst ht'
 have hm':=sameTmp_eq hm
 have hk':=sameTmp_eq hk
 subst hm'
 subst hk'
 obtain ⟨a1,a2,a3⟩:=Oper.apart_spec hap
 have hg1:guardPath ops s oj=some []:=by
  unfold guardPath
  rw [Option.isNone_iff_eq_none.1 hgj]
 have hg2:guardPath ops s oi=some []:=by
  unfold guardPath
  rw [Option.isNone_iff_eq_none.1 hgi]
 have hpj0:plj.path=[]:=by have:=planOf_path hplj;rw [hg1] at this;exact (Option.some.inj this).symm
 have hag:=agree_after (s:=s) (p:=plj.path) (v:=vj) (m':=if Op.wr oj.op (hintAt hs j) then putM s.m (plj.names oj) msj else s.m) hoj (fun d hd=>a1 d hd)
 rw [planOf_agree hag] at hpli
 have hpi0:pli.path=[]:=by have:=planOf_path hpli;rw [hg2] at this;exact (Option.some.inj this).symm
 have hwo:Op.wr oj.op (hintAt hs j)=false:=by rw [hopj];exact Op.wr_le rfl
 have hwe:Op.wr oi.op (hintAt hs i)=true:=by rw [hopi];rfl
 have hplj2:=hplj
 have hpli2:=hpli
 unfold planOf at hplj2 hpli2
 rw [hg1,hopj] at hplj2
 rw [hg2,hopi] at hpli2
 simp only at hplj2 hpli2
 obtain ⟨vs,hvs⟩:∃ vs,evAll s [] [m',k']=some vs:=by
  cases he:evAll s [] [m',k'] with
  | none =>
   have:evAll s [] (Op.lookup t m' k' false).operands.toList=none:=he
   rw [this] at hplj2;cases hplj2
  | some vs=>exact ⟨vs,rfl⟩
 have e1:evAll s [] (Op.lookup t m' k' false).operands.toList=some vs:=hvs
 have e2:evAll s [] (Op.mapEntry t m' k').operands.toList=some vs:=hvs
 rw [e1] at hplj2
 rw [e2] at hpli2
 cases hplj2
 cases hpli2
 obtain ⟨x,key,rfl⟩:=evAll_two hvs
 simp only [hwo,Bool.false_eq_true,if_false] at hri hpli ⊢
 simp only [Plan.run,act,hopi] at hri
 simp only [Plan.run,act,hopj] at hrj
 obtain ⟨n,hx⟩:∃ n,x=.v (.c (.omap n)):=by
  unfold actEntry at hri
  split at hri
  case h_2=>cases hri
  split at hri
  case h_2=>cases hri
  rename_i e _ _
  exact ⟨_,(List.cons.inj e).1⟩
 subst hx
 have en1:∀ d,Op.names (.lookup t m' k' false) d [.v (.c (.omap n)),key]=[n]:=fun _=>rfl
 have en2:∀ d,Op.names (.mapEntry t m' k') d [.v (.c (.omap n)),key]=[n]:=fun _=>rfl
 rw [en1] at hrj
 rw [en2] at hri
 simp only [List.map_cons,List.map_nil] at hrj hri
 obtain ⟨o,o',msj',qj2,hgm,hmsi,hlk,himp⟩:=look_entry hint hrj hri
 subst hmsi
 have hni:Plan.names oi (.op [] [.v (.c (.omap n)),key])=[n]:=by simp only [Plan.names,hopi];rfl
 have hput:getM (putM s.m [n] [some (some o')]) n=some (some o'):=by
  show (s.m.set n (some o'))[n]?=some (some o')
  have:n<s.m.length:=(List.getElem?_eq_some_iff.1 (show s.m[n]?=some (some o) from hgm)).1
  simp [this]
 have hst1:stepOp P ops i (hintAt hs i) s=some ({ t:=setSlot s.t oi.dst (slotOf [] vi),m:=putM s.m [n] [some (some o')],g:=s.g.set i (outcomeAt oi.dst vi) },askOf s.g [] qi',[n]):=by
  unfold stepOp
  simp only [hoi,hpli,hwe,Plan.path,guarded,Bool.and_false,Bool.false_and,Bool.false_eq_true,if_false]
  simp only [Plan.run,act,hopi,en2,List.map_cons,List.map_nil,hri,if_true,Plan.names]
 have hag':=agree_after (s:=s) (y:=oj) (p:=[]) (v:=vi) (m':=putM s.m [n] [some (some o')]) hoi (fun d hd=>a3 d hd)
 have hplj3:=(planOf_agree hag').trans hplj
 refine ⟨_,askOf s.g [] qi',askOf s.g [] qj2,by rw [hni];exact hst1,?_,fun ha hb=>?_⟩
 ·unfold stepOp
  simp only [hoj,hplj3,hwo,Bool.false_and,Bool.false_eq_true,if_false]
  simp only [Plan.run,act,hopj,en1,List.map_cons,List.map_nil,hput,hlk,Plan.path,Plan.names,hwe,if_true]
  have e1:askOf (s.g.set i (outcomeAt oi.dst vi)) [] qj2=askOf s.g [] qj2:=rfl
  have e2:setSlot (setSlot s.t oi.dst (slotOf [] vi)) oj.dst (slotOf [] vj)=setSlot (setSlot s.t oj.dst (slotOf [] vj)) oi.dst (slotOf [] vi):=
   setSlot_comm (fun k hk hk'=>a2 k hk' hk)
  have e3:(s.g.set i (outcomeAt oi.dst vi)).set j (outcomeAt oj.dst vj)=(s.g.set j (outcomeAt oj.dst vj)).set i (outcomeAt oi.dst vi):=List.set_comm _ _ (fun e=>hij e.symm)
  rw [e1,e2,e3,hopi]
  rfl
 ·have ha':=allA_askOf ha (show holds s.g []=true from rfl)
  have hb':=allA_askOf hb (show holds (s.g.set j (outcomeAt oj.dst vj)) []=true from rfl)
  exact ⟨allA_of hb',allA_of (himp hb' ha')⟩
theorem take_first{ops:Array Oper}{hs:List (Nat×Hint)}{mk:List Nat}{i:Nat}:∀ (l1 l2:List Nat) {s sf:S} {q:List Ask} {tr:List (Nat×List Nat)},evalOps P ops hs (l1++i :: l2) s=some (sf,q,tr)→pairsOk ops hs mk tr=true→POk s →
  (∀ k,k∈l1++i :: l2→s.g[k]?=some none)→(l1++i :: l2).Nodup→(∀ j,j∈l1→(mk.getD i 0).testBit j=false) →
  ∃ s1 q1 n1 q2 tr2,stepOp P ops i (hintAt hs i) s=some (s1,q1,n1)∧evalOps P ops hs (l1++l2) s1=some (sf,q2,tr2)∧(i,n1)∈tr∧(∀ x,x∈tr2→x∈tr)∧pairsOk ops hs mk tr2=true∧(allA q→allA q1∧allA q2):=by
 intro l1
 induction l1 with
 | nil =>
  intro l2 s sf q tr he hp _ _ _ _
  simp only [List.nil_append,evalOps] at he
  split at he
  ·cases he
  ·rename_i s1 q1 n1 hst
   split at he
   ·cases he
   ·rename_i s2 q2 tr2 hev
    cases he
    simp only [pairsOk,Bool.and_eq_true] at hp
    exact ⟨s1,q1,n1,q2,tr2,hst,hev,List.mem_cons_self,fun x hx=>List.mem_cons_of_mem _ hx,hp.2,fun h=>allA_append.1 h⟩
 | cons j l1 ih =>
  intro l2 s sf q tr he hp hpok hfr hnd hm
  simp only [List.cons_append,evalOps] at he
  split at he
  ·cases he
  ·rename_i s1 qj nj hst
   split at he
   ·cases he
   ·rename_i s2 q' tr' hev
    cases he
    simp only [pairsOk,Bool.and_eq_true] at hp
    have hnd':=List.nodup_cons.1 hnd
    have hij:j≠i:=fun e=>hnd'.1 (by rw [e];simp)
    obtain ⟨o,pl,v,ms,q'',ho,hpl,hwg,hrun,hs1,hqj,hnj⟩:=stepOp_some hst
    have hpok1:POk s1:=by
     rw [hs1]
     exact pok_put hpok (hfr j List.mem_cons_self) (guardPath_pathOk hpok (planOf_path hpl))
    have hfr1:∀ k,k∈l1++i :: l2→s1.g[k]?=some none:=fun k hk=>by
     rw [stepOp_g hst (fun e=>hnd'.1 (by rw [e];exact hk))]
     exact hfr k (List.mem_cons_of_mem _ hk)
    obtain ⟨sa,qa,na,qb,trb,hsta,heva,hmem,hsub,hpa,himp⟩:=ih l2 hev hp.2 hpok1 hfr1 hnd'.2 (fun k hk=>hm k (List.mem_cons_of_mem _ hk))
    have hall:=List.all_eq_true.1 hp.1
    obtain ⟨s1',qa',qj',h1,h2,hsw⟩:∃ s1' qa' qj',stepOp P ops i (hintAt hs i) s=some (s1',qa',na)∧stepOp P ops j (hintAt hs j) s1'=some (sa,qj',nj)∧(allA qj→allA qa→allA qa'∧allA qj'):=by
     have:=hall (i,na) hmem
     simp only [Bool.or_eq_true] at this
     rcases this with (h | h) | h
     ·rw [hm j List.mem_cons_self] at h;cases h
     ·obtain ⟨s1',h1,h2⟩:=diamond hpok (hfr i (by simp)) (hfr j List.mem_cons_self) hij hst hsta h
      exact ⟨s1',qa,qj,h1,h2,fun ha hb=>⟨hb,ha⟩⟩
     ·exact diamond_map hpok (hfr i (by simp)) (hfr j List.mem_cons_self) hij hst hsta h
    refine ⟨s1',qa',na,qj'++qb,(j,nj) :: trb,h1,?_,List.mem_cons_of_mem _ hmem,fun x hx=>?_,?_,fun h=>by
     obtain ⟨ha,hb⟩:=allA_append.1 h
     obtain ⟨h3,h4⟩:=hsw ha (himp hb).1
     exact ⟨h3,allA_append.2 ⟨h4,(himp hb).2⟩⟩⟩
    ·simp only [List.cons_append,evalOps,h2,heva]
    ·rcases List.mem_cons.1 hx with rfl | hx
     ·exact List.mem_cons_self
     ·exact List.mem_cons_of_mem _ (hsub x hx)
    ·simp only [pairsOk,Bool.and_eq_true]
     exact ⟨List.all_eq_true.2 (fun x hx=>hall x (hsub x hx)),hpa⟩
theorem foldl_testBit{acc:List Nat}{j:Nat}:∀ (l:List Edge) (x:Nat),(l.foldl (fun x e=>if Region.binds .any e then x ||| 2 ^ e.on ||| acc.getD e.on 0 else x) x).testBit j=true →
  x.testBit j=true∨∃ e,e∈l∧Region.binds .any e=true∧(e.on=j∨(acc.getD e.on 0).testBit j=true):=by
 intro l
 induction l with
 | nil=>intro x h;exact .inl h
 | cons e l ih =>
  intro x h
  simp only [List.foldl_cons] at h
  rcases ih _ h with h | ⟨e',he',hb,h⟩
  ·cases hbe:Region.binds .any e with
   | false=>rw [hbe] at h;exact .inl (by simpa using h)
   | true =>
    rw [hbe] at h
    simp only [if_true,Nat.testBit_or,Bool.or_eq_true,Nat.testBit_two_pow,decide_eq_true_eq] at h
    rcases h with (h | h) | h
    ·exact .inl h
    ·exact .inr ⟨e,List.mem_cons_self,hbe,.inl h⟩
    ·exact .inr ⟨e,List.mem_cons_self,hbe,.inr h⟩
  ·exact .inr ⟨e',List.mem_cons_of_mem _ he',hb,h⟩
def MasksOk(ops:List Oper)(mk:List Nat):Prop:=
 ∀ (i j:Nat),i<mk.length→(mk.getD i 0).testBit j=true→∃ o e,ops[i]?=some o∧e∈o.after.toList∧Region.binds .any e=true∧(e.on=j∨(e.on<i∧(mk.getD e.on 0).testBit j=true))
theorem masks_ok{ops:List Oper}:∀ (r:List Oper) (acc pre:List _),pre++r=ops→pre.length=acc.length→MasksOk ops acc→MasksOk ops (masks r acc)∧(masks r acc).length=acc.length+r.length:=by
 intro r
 induction r with
 | nil=>intro acc pre _ _ h;exact ⟨h,by simp [masks]⟩
 | cons o r ih =>
  intro acc pre hpre hlen h
  simp only [masks]
  have:=ih (acc++[o.after.toList.foldl (fun x e=>if Region.binds .any e then x ||| 2 ^ e.on ||| acc.getD e.on 0 else x) 0]) (pre++[o]) (by simp [hpre]) (by simp [hlen]) ?_
  ·refine ⟨this.1,?_⟩
   rw [this.2]
   simp
   omega
  ·intro i j hi hb
   simp only [List.length_append,List.length_singleton] at hi
   by_cases hlt:i<acc.length
   ·have e1:(acc++[o.after.toList.foldl (fun x e=>if Region.binds .any e then x ||| 2 ^ e.on ||| acc.getD e.on 0 else x) 0]).getD i 0=acc.getD i 0:=by
     simp [gE,List.getElem?_append_left hlt]
    rw [e1] at hb
    obtain ⟨o',e,ho',he,hbe,h'⟩:=h i j hlt hb
    refine ⟨o',e,ho',he,hbe,?_⟩
    rcases h' with h' | ⟨h1,h2⟩
    ·exact .inl h'
    ·right
     refine ⟨h1,?_⟩
     have:e.on<acc.length:=by omega
     simpa [gE,List.getElem?_append_left this] using h2
   ·have hie:i=acc.length:=by omega
    subst hie
    have e1:(acc++[o.after.toList.foldl (fun x e=>if Region.binds .any e then x ||| 2 ^ e.on ||| acc.getD e.on 0 else x) 0]).getD acc.length 0=o.after.toList.foldl (fun x e=>if Region.binds .any e then x ||| 2 ^ e.on ||| acc.getD e.on 0 else x) 0:=by
     simp [gE]
    rw [e1] at hb
    rcases foldl_testBit _ _ hb with h0 | ⟨e,he,hbe,h'⟩
    ·simp at h0
    ·have hoi:ops[acc.length]?=some o:=by
      rw [← hpre,← hlen]
      simp
     refine ⟨o,e,hoi,he,hbe,?_⟩
     rcases h' with h' | h'
     ·exact .inl h'
     ·right
      have hlt:e.on<acc.length:=by
       cases Nat.lt_or_ge e.on acc.length with
       | inl h=>exact h
       | inr hge=>simp [gE,List.getElem?_eq_none hge] at h'
      exact ⟨hlt,by simpa [gE,List.getElem?_append_left hlt] using h'⟩
def Closed(ops:Array Oper)(listed:Array Bool):Prop:=
 ∀ (i:Nat) (o:Oper),listed.getD i true=true→ops[i]?=some o→∀ e,e∈o.after.toList→Region.binds .any e=true→listed.getD e.on false=true
theorem waits_listed{ops:Array Oper}{listed:Array Bool}{mk:List Nat}(hsz:listed.size=ops.size)(hmk:MasksOk ops.toList mk)(hcl:Closed ops listed):∀ (n i:Nat),i<n→i<mk.length→∀ (o:Oper),ops[i]?=some o →
  (∀ e,e∈o.after.toList→Region.binds .any e=true→listed.getD e.on false=true)→∀ j,(mk.getD i 0).testBit j=true→listed.getD j false=true:=by
 intro n
 induction n with
 | zero=>intro i h;omega
 | succ n ih =>
  intro i hi hlen o ho hpre j hj
  obtain ⟨o',e,ho',he,hbe,h⟩:=hmk i j hlen hj
  have:o'=o:=by
   rw [Array.getElem?_toList] at ho'
   rw [ho] at ho'
   exact (Option.some.inj ho').symm
  subst this
  rcases h with h | ⟨h1,h2⟩
  ·rw [← h];exact hpre e he hbe
  ·have hle:=hpre e he hbe
   have hlt:e.on<listed.size:=by
    cases Nat.lt_or_ge e.on listed.size with
    | inl h=>exact h
    | inr h=>simp [h] at hle
   have hoe:∃ oe,ops[e.on]?=some oe:=⟨ops[e.on]'(by omega),by simp⟩
   obtain ⟨oe,hoe⟩:=hoe
   refine ih e.on (by omega) (by omega) oe hoe (fun e' he' hbe'=>hcl e.on oe ?_ hoe e' he' hbe') j h2
   have:listed.getD e.on true=listed.getD e.on false:=by simp [hlt]
   rw [this];exact hle
end Go.Sym
