/- Part of the proof of the statement that the claim's last text names: contracts of functions and laws of the symbolic layer. -/
import Derived.Laws.Small
import Derived.Test.YtidbmbpeblmliaaGreatDoorO02
set_option linter.unusedVariables false
set_option linter.unusedSimpArgs false
namespace Go.Sym
open Go.RowKit
variable {P:Program} {B:Base P} {E:Env} {m:List (Option MO)} {w:World}
theorem vals1{ρ:Operand→Value}{x:Operand}{vs:List SB}(h:Vals E ρ [x] vs):∃ v,vs=[v]∧RelSB E v (ρ x):=by
 match vs,h.1 with
 | [v],_=>exact ⟨v,rfl,h.one⟩
theorem vals2{ρ:Operand→Value}{x y:Operand}{vs:List SB}(h:Vals E ρ [x,y] vs):∃ v u,vs=[v,u]∧RelSB E v (ρ x)∧RelSB E u (ρ y):=by
 match vs,h.1 with
 | [v,u],_=>exact ⟨v,u,rfl,h.two⟩
theorem vals3{ρ:Operand→Value}{x y z:Operand}{vs:List SB}(h:Vals E ρ [x,y,z] vs):∃ v u t,vs=[v,u,t]∧RelSB E v (ρ x)∧RelSB E u (ρ y)∧RelSB E t (ρ z):=by
 match vs,h.1 with
 | [v,u,t],_=>exact ⟨v,u,t,rfl,h.2 0 x v rfl rfl,h.2 1 y u rfl rfl,h.2 2 z t rfl rfl⟩
theorem kindEq_eq{k k':IntKind}(h:kindEq k k'=true):k=k':=by
 cases k<;>cases k'<;>first | rfl | simp [kindEq] at h
theorem eqGuard_int(op:BinOp)(t:TypeId)(x y:Operand)(k k':IntKind)(a b:Int):(eqGuard op t x y (.int k a) (.int k' b)).run P w=.ok () w:=by
 unfold eqGuard
 cases op<;>simp
theorem eqGuard_bool(op:BinOp)(t:TypeId)(x y:Operand)(a b:Bool):(eqGuard op t x y (.bool a) (.bool b)).run P w=.ok () w:=by
 unfold eqGuard
 cases op<;>simp
theorem arith_run{op:BinOp}{t:TypeId}{k:IntKind}{a b:Int}{c:C}{q:List Prop}(h:arith op k a b=some (c,q))(hq:allP q):
  ∃ u,(binOp op t (.int k a) (.int k b)).run P w=.ok u w∧RelSB E (.v (.c c)) u:=by
 cases op<;>simp only [arith] at h<;>(try cases h)
 case and=>refine ⟨_,?_,rel_int⟩;simp [binOp,Op.intBits,andI]
 case or=>refine ⟨_,?_,rel_int⟩;simp [binOp,Op.intBits,orI]
 case xor=>refine ⟨_,?_,rel_int⟩;simp [binOp,Op.intBits,xorI]
 case andNot=>refine ⟨_,?_,rel_int⟩;simp [binOp,Op.intBits,andNotI]
 case add=>refine ⟨_,?_,rel_int⟩;simp [binOp,Op.intArith]
 case sub=>refine ⟨_,?_,rel_int⟩;simp [binOp,Op.intArith]
 case mul=>refine ⟨_,?_,rel_int⟩;simp [binOp,Op.intArith]
 case quo=>refine ⟨_,?_,rel_int⟩;simp [binOp,Op.intDiv,show b≠0 from hq]
 case rem=>refine ⟨_,?_,rel_int⟩;simp [binOp,Op.intDiv,show b≠0 from hq]
 case shl =>
  obtain ⟨h0,h1⟩:0≤b∧b≤(k.bits:Int):=hq
  refine ⟨_,?_,rel_int⟩
  simp [binOp,Op.shift,show ¬ b<0 by omega,show min b.toNat k.bits=b.toNat by omega]
 case shr =>
  obtain ⟨h0,h1⟩:0≤b∧b≤(k.bits:Int):=hq
  refine ⟨_,?_,rel_int⟩
  simp [binOp,Op.shift,show ¬ b<0 by omega,show min b.toNat k.bits=b.toNat by omega]
 all_goals
  refine ⟨_,?_,rel_bool⟩
  simp [binOp,Op.intCmp]
theorem shift_run{op:BinOp}{t:TypeId}{k k':IntKind}{a b:Int}{c:C}{q:List Prop}(hs:isShift op=true)(h:arith op k a b=some (c,q))(hq:allP q):
  ∃ u,(binOp op t (.int k a) (.int k' b)).run P w=.ok u w∧RelSB E (.v (.c c)) u:=by
 cases op<;>simp [isShift] at hs<;>simp only [arith] at h<;>cases h
 all_goals
  obtain ⟨h0,h1⟩:0≤b∧b≤(k.bits:Int):=hq
  refine ⟨_,?_,rel_int⟩
  simp [binOp,Op.shift,show ¬ b<0 by omega,show min b.toNat k.bits=b.toNat by omega]
theorem eqVals_of:∀ {cs ds:List C} {us vs:List Value} {b:Bool},eqCells cs ds=some b→us.length=cs.length→vs.length=ds.length →
  (∀ j,j<cs.length→RelK E.K (cs.getD j .junk) (us.getD j undef))→(∀ j,j<ds.length→RelK E.K (ds.getD j .junk) (vs.getD j undef))→eqVals us vs=b:=by
 intro cs
 induction cs with
 | nil =>
  intro ds us vs b h h1 h2 h3 h4
  cases ds with
  | nil =>
   simp only [eqCells] at h
   cases h
   cases us with
   | nil=>cases vs with
    | nil=>rfl
    | cons v vs=>simp at h2
   | cons u us=>simp at h1
  | cons d ds=>simp [eqCells] at h
 | cons c cs ih =>
  intro ds us vs b h h1 h2 h3 h4
  cases ds with
  | nil=>cases c<;>simp [eqCells] at h
  | cons d ds =>
   cases us with
   | nil=>simp at h1
   | cons u us =>
    cases vs with
    | nil=>simp at h2
    | cons v vs =>
     have hu:=h3 0 (by simp)
     have hv:=h4 0 (by simp)
     simp only [gE,List.getElem?_cons_zero,Option.getD_some] at hu hv
     have h3':∀ j,j<cs.length→RelK E.K (cs.getD j .junk) (us.getD j undef):=fun j hj=>by
      have:=h3 (j+1) (by simpa using hj)
      simpa [gE] using this
     have h4':∀ j,j<ds.length→RelK E.K (ds.getD j .junk) (vs.getD j undef):=fun j hj=>by
      have:=h4 (j+1) (by simpa using hj)
      simpa [gE] using this
     have h1':us.length=cs.length:=by simpa using h1
     have h2':vs.length=ds.length:=by simpa using h2
     cases c with
     | int k a=>cases d with
      | int k' a' =>
       simp only [eqCells] at h
       split at h
       ·simp only [Option.map_eq_some_iff] at h
        obtain ⟨b',hb',rfl⟩:=h
        have hrec:=ih hb' h1' h2' h3' h4'
        cases hu;cases hv
        simp [eqVals,hrec]
       ·cases h
      | _=>simp [eqCells] at h
     | bool a=>cases d with
      | bool a' =>
       simp only [eqCells,Option.map_eq_some_iff] at h
       obtain ⟨b',hb',rfl⟩:=h
       have hrec:=ih hb' h1' h2' h3' h4'
       cases hu;cases hv
       simp [eqVals,hrec]
      | _=>simp [eqCells] at h
     | str a=>cases d with
      | str a' =>
       simp only [eqCells,Option.map_eq_some_iff] at h
       obtain ⟨b',hb',rfl⟩:=h
       have hrec:=ih hb' h1' h2' h3' h4'
       cases hu;cases hv
       simp [eqVals,hrec]
      | _=>simp [eqCells] at h
     | _=>cases d<;>simp [eqCells] at h
theorem flat_val:∀ {cs:List C} {fs:List Flat} {us:List Value},flatOf cs=some fs→us.length=cs.length→(∀ j,j<cs.length→RelK E.K (cs.getD j .junk) (us.getD j undef)) →
  us.length=fs.length∧∀ (j:Nat) (f:Flat) (u:Value),fs[j]?=some f→us[j]?=some u→Flat.val f u:=by
 intro cs
 induction cs with
 | nil =>
  intro fs us h h1 _
  simp only [flatOf] at h
  cases h
  exact ⟨by simpa using h1,fun j f u hf=>by simp at hf⟩
 | cons c cs ih =>
  intro fs us h h1 h3
  cases us with
  | nil=>simp at h1
  | cons u us =>
   have hu:=h3 0 (by simp)
   simp only [gE,List.getElem?_cons_zero,Option.getD_some] at hu
   have h3':∀ j,j<cs.length→RelK E.K (cs.getD j .junk) (us.getD j undef):=fun j hj=>by
    have:=h3 (j+1) (by simpa using hj)
    simpa [gE] using this
   have h1':us.length=cs.length:=by simpa using h1
   cases c<;>simp only [flatOf] at h<;>(try cases h)
   all_goals
    simp only [Option.map_eq_some_iff] at h
    obtain ⟨fs',hfs',rfl⟩:=h
    obtain ⟨hl,hf⟩:=ih hfs' h1' h3'
    refine ⟨by simp [hl],fun j f u' hj hu'=>?_⟩
    cases j with
    | zero =>
     simp at hj hu'
     subst hj hu'
     cases hu
     exact ⟨_,rfl⟩
    | succ j=>exact hf j f u' (by simpa using hj) (by simpa using hu')
theorem flat_transfer:∀ {cs ds:List C} {fs:List Flat} {b:Bool},eqCells cs ds=some b→flatOf cs=some fs→flatOf ds=some fs:=by
 intro cs
 induction cs with
 | nil=>intro ds fs b h hf;cases ds<;>simp [eqCells] at h ⊢;exact hf
 | cons c cs ih =>
  intro ds fs b h hf
  cases ds with
  | nil=>cases c<;>simp [eqCells] at h
  | cons d ds =>
   cases c<;>cases d<;>simp only [eqCells] at h<;>(try cases h)
   ·rename_i k a k' a'
    split at h
    ·rename_i hk
     have:=kindEq_eq hk
     subst this
     simp only [Option.map_eq_some_iff] at h
     obtain ⟨b',hb',_⟩:=h
     simp only [flatOf,Option.map_eq_some_iff] at hf ⊢
     obtain ⟨fs',h1,h2⟩:=hf
     exact ⟨fs',ih hb' h1,h2⟩
    ·cases h
   all_goals
    simp only [Option.map_eq_some_iff] at h
    obtain ⟨b',hb',_⟩:=h
    simp only [flatOf,Option.map_eq_some_iff] at hf ⊢
    obtain ⟨fs',h1,h2⟩:=hf
    exact ⟨fs',ih hb' h1,h2⟩
theorem run_equal_nil(w:World)(t e:TypeId)(a:Option Addr)(l c:Nat)(h:P.underlying t=some (.slice e)):(Op.equal t (.slice a l c) (.slice none 0 0)).run P w=.ok a.isNone w:=by
 have:∀ d,(Op.equalIn (d+1) t (.slice a l c) (.slice none 0 0)).run P w=.ok a.isNone w:=fun d=>by
  cases a<;>simp [Op.equalIn,run_underlying h]
 exact this 9999
theorem nilQ_val{c:C}{b:Bool}{q:List Prop}{u:Value}(h:nilQ c=some (b,q))(hr:Rel E c u)(hq:allP q):∃ a l cp,u=.slice a l cp∧b=a.isNone:=by
 unfold nilQ at h
 split at h
 ·cases h
  have hr:RelK E.K .nil u:=hr
  cases hr
  exact ⟨none,0,0,rfl,rfl⟩
 ·rename_i sz n f
  cases h
  have hn:0<n:=hq
  have hr:RelK E.K (.lst sz n f) u:=hr
  cases hr with
  | lst0=>omega
  | lst1=>omega
  | lst _ _ _ b off cap arr T fz g hK hg hl hr ho hcap hmx=>exact ⟨_,_,_,rfl,rfl⟩
 ·rename_i a cp
  cases h
  have hr:RelK E.K (.lit (.slice (some a) 0 cp)) u:=hr
  cases hr
  exact ⟨_,_,_,rfl,rfl⟩
 ·cases h
theorem bin_sound{o:Oper}{a:Act}{op:BinOp}{t t':TypeId}{x y:Operand}{vs:List SB}{r:SB}{ms ms':List (Option (Option MO))}{q:List Prop}(hc:Core B E m w)(ho:o.op=.binOp op t x y t') 
  (hv:Vals E a.eval [x,y] vs) (hact:actBin P op t vs ms=some (r,ms',q)) (hq:allP q):Done P B E m r o a w:=by
 obtain ⟨v1,v2,rfl,hx,hy⟩:=vals2 hv
 unfold actBin at hact
 split at hact
 ·rename_i k n1 k' n2 heq
  cases heq
  have e1:=relSB_int hx
  have e2:=relSB_int hy
  split at hact
  ·rename_i hk
   simp only [Option.map_eq_some_iff] at hact
   obtain ⟨⟨c,q'⟩,har,hact⟩:=hact
   cases hact
   cases hsh:isShift op with
   | true =>
    obtain ⟨u,hrun,hu⟩:=shift_run (P:=P) (w:=w) (E:=E) (t:=t) (k':=k') hsh har hq
    refine done_value (u:=u) hc ?_ hu
    have hg:(eqGuard op t x y (.int k n1) (.int k' n2)).run P w=.ok () w:=by unfold eqGuard;cases op<;>simp
    simp only [execOp,ho,e1,e2,Sem.run_bind,hg,Result.andThen_ok,hrun,Sem.run_pure]
   | false =>
   rw [hsh,Bool.or_false] at hk
   have:=kindEq_eq hk
   subst this
   obtain ⟨u,hrun,hu⟩:=arith_run (P:=P) (w:=w) (E:=E) (t:=t) har hq
   refine done_value (u:=u) hc ?_ hu
   simp only [execOp,ho,e1,e2,Sem.run_bind,eqGuard_int,Result.andThen_ok,hrun,Sem.run_pure]
  ·cases hact
 ·rename_i b1 b2 heq
  cases heq
  have e1:=relSB_bool hx
  have e2:=relSB_bool hy
  split at hact
  ·rename_i hu1
   cases hact
   refine done_value (u:=.bool (b1==b2)) hc ?_ rel_bool
   simp only [execOp,ho,e1,e2,Sem.run_bind,eqGuard_bool,Result.andThen_ok,binOp,run_equal_bool (w:=w) t b1 b2 hu1,Sem.run_pure]
  ·rename_i hu1
   cases hact
   refine done_value (u:=.bool (!(b1==b2))) hc ?_ rel_bool
   simp only [execOp,ho,e1,e2,Sem.run_bind,eqGuard_bool,Result.andThen_ok,binOp,run_equal_bool (w:=w) t b1 b2 hu1,Sem.run_pure]
  ·cases hact
 ·rename_i cs ds heq
  cases heq
  obtain ⟨us,e1,hu⟩:∃ arr,a.eval x=.agg arr∧RelLK E.K cs arr:=hx
  obtain ⟨ws,e2,hw⟩:∃ arr,a.eval y=.agg arr∧RelLK E.K ds arr:=hy
  have g1:∀ j,j<cs.length→RelK E.K (cs.getD j .junk) (us.toList.getD j undef):=fun j hj=>by
   have:=(hu.2 j hj).1
   simpa [gE] using this
  have g2:∀ j,j<ds.length→RelK E.K (ds.getD j .junk) (ws.toList.getD j undef):=fun j hj=>by
   have:=(hw.2 j hj).1
   simpa [gE] using this
  split at hact
  ·rename_i b fs he hf
   cases hact
   have hev:=eqVals_of (E:=E) he (by simpa using hu.1) (by simpa using hw.1) g1 g2
   obtain ⟨l1,f1⟩:=flat_val (E:=E) hf (by simpa using hu.1) g1
   obtain ⟨l2,f2⟩:=flat_val (E:=E) (flat_transfer he hf) (by simpa using hw.1) g2
   obtain ⟨r1,r2,r3⟩:=hq w us.toList ws.toList x y l1 l2 f1 f2
   refine done_value (u:=.bool b) hc ?_ rel_bool
   simp only [Array.toArray_toList] at r1 r2 r3
   simp only [execOp,ho,e1,e2,Sem.run_bind,r1,Result.andThen_ok,binOp,r3,hev,Sem.run_pure]
  ·rename_i b fs he hf
   cases hact
   have hev:=eqVals_of (E:=E) he (by simpa using hu.1) (by simpa using hw.1) g1 g2
   obtain ⟨l1,f1⟩:=flat_val (E:=E) hf (by simpa using hu.1) g1
   obtain ⟨l2,f2⟩:=flat_val (E:=E) (flat_transfer he hf) (by simpa using hw.1) g2
   obtain ⟨r1,r2,r3⟩:=hq w us.toList ws.toList x y l1 l2 f1 f2
   refine done_value (u:=.bool (!b)) hc ?_ rel_bool
   simp only [Array.toArray_toList] at r1 r2 r3
   simp only [execOp,ho,e1,e2,Sem.run_bind,r2,Result.andThen_ok,binOp,r3,hev,Sem.run_pure]
  ·cases hact
 ·rename_i s1 s2 heq
  cases heq
  have e1:=relSB_str hx
  have e2:=relSB_str hy
  have hg:∀ op,(eqGuard op t x y (.string s1) (.string s2)).run P w=.ok () w:=fun op=>by unfold eqGuard;cases op<;>simp
  split at hact
  ·cases hact
   refine done_value (u:=.bool (s1.toList==s2.toList)) hc ?_ rel_bool
   simp only [execOp,ho,e1,e2,Sem.run_bind,hg,Result.andThen_ok,binOp,Op.stringOp,Sem.run_pure]
  ·cases hact
   refine done_value (u:=.bool (!(s1.toList==s2.toList))) hc ?_ rel_bool
   simp only [execOp,ho,e1,e2,Sem.run_bind,hg,Result.andThen_ok,binOp,Op.stringOp,Sem.run_pure]
  ·cases hact
   have hq:((s1.size+s2.size:Nat):Int)≤9223372036854775807:=hq
   have hn:¬ ((s1.size+s2.size:Nat):Int)>IntKind.i64.max:=by
    have:IntKind.i64.max=9223372036854775807:=by decide
    omega
   refine done_value (u:=.string (s1++s2)) hc ?_ ⟨RelK.str _ (by rw [ByteArray.size_append];simp only [maxLen];omega),rfl⟩
   simp only [execOp,ho,e1,e2,Sem.run_bind,hg,Result.andThen_ok,binOp,Op.stringOp,if_neg hn,Sem.run_pure]
  ·cases hact
 ·rename_i c heq
  cases heq
  have e2:a.eval y=.slice none 0 0:=by
   have h:RelK E.K .nil (a.eval y):=relSB_c hy
   generalize a.eval y=u at h ⊢
   cases h;rfl
  have hx':Rel E c (a.eval x):=relSB_c hx
  split at hact
  ·rename_i e b q' hu hn
   cases hact
   obtain ⟨ad,l,cp,e1,hb⟩:=nilQ_val hn hx' hq
   refine done_value (u:=.bool b) hc ?_ rel_bool
   rw [hb]
   have hg:∀ op,(eqGuard op t x y (.slice ad l cp) (.slice none 0 0)).run P w=.ok () w:=fun op=>by unfold eqGuard;cases op<;>simp
   simp only [execOp,ho,e1,e2,Sem.run_bind,hg,Result.andThen_ok,binOp,Go.Sym.run_equal_nil w t e ad l cp hu,Sem.run_pure]
  ·rename_i e b q' hu hn
   cases hact
   obtain ⟨ad,l,cp,e1,hb⟩:=nilQ_val hn hx' hq
   refine done_value (u:=.bool (!b)) hc ?_ rel_bool
   rw [hb]
   have hg:∀ op,(eqGuard op t x y (.slice ad l cp) (.slice none 0 0)).run P w=.ok () w:=fun op=>by unfold eqGuard;cases op<;>simp
   simp only [execOp,ho,e1,e2,Sem.run_bind,hg,Result.andThen_ok,binOp,Go.Sym.run_equal_nil w t e ad l cp hu,Sem.run_pure]
  ·cases hact
 ·cases hact
theorem un_sound{o:Oper}{a:Act}{op:UnOp}{t:TypeId}{x:Operand}{vs:List SB}{r:SB}{ms ms':List (Option (Option MO))}{q:List Prop}(hc:Core B E m w)(ho:o.op=.unOp op t x) 
  (hv:Vals E a.eval [x] vs) (hact:actUn op vs ms=some (r,ms',q)):Done P B E m r o a w:=by
 obtain ⟨v,rfl,hx⟩:=vals1 hv
 unfold actUn at hact
 split at hact
 ·rename_i b heq
  cases heq
  cases hact
  have e1:=relSB_bool hx
  refine done_value (u:=.bool (!b)) hc ?_ rel_bool
  simp only [execOp,ho,e1,Op.unary,Sem.run_bind,Sem.run_pure,Result.andThen_ok]
 ·rename_i k n heq
  cases heq
  cases hact
  have e1:=relSB_int hx
  refine done_value (u:=.int k (k.wrap (0 - n))) hc ?_ rel_int
  simp only [execOp,ho,e1,Op.unary,Op.intArith,Sem.run_bind,Sem.run_pure,Result.andThen_ok]
 ·cases hact
theorem convert_sound{o:Oper}{a:Act}{s t:TypeId}{x:Operand}{vs:List SB}{r:SB}{ms ms':List (Option (Option MO))}{q:List Prop}(hc:Core B E m w)(ho:o.op=.convert s t x) 
  (hv:Vals E a.eval [x] vs) (hact:actConvert P s t vs ms=some (r,ms',q)):Done P B E m r o a w:=by
 obtain ⟨v,rfl,hx⟩:=vals1 hv
 unfold actConvert at hact
 split at hact
 ·rename_i k n heq
  cases heq
  have e1:=relSB_int hx
  split at hact
  ·rename_i k1 k2 h1 h2
   cases hact
   refine done_value (u:=.int k2 (k2.wrap n)) hc ?_ rel_int
   simp only [execOp,ho,e1,convert,Sem.run_bind,run_underlying h1,run_underlying h2,Result.andThen_ok,Conv.intToInt,Sem.run_pure]
  ·rename_i k1 k2 h1 h2
   cases hact
   refine done_value (u:=.float k2 (k2.nearest n)) hc ?_ ⟨RelK.lit _ rfl,rfl⟩
   simp only [execOp,ho,e1,convert,Sem.run_bind,run_underlying h1,run_underlying h2,Result.andThen_ok,Conv.intToFloat,Sem.run_pure]
  ·cases hact
 ·cases hact
theorem run_equal_iface(w:World)(t:TypeId){ms}(h:P.underlying t=some (.interface ms)):(Op.equal t .nilIface .nilIface).run P w=.ok true w:=by
 have:∀ d,(Op.equalIn (d+1) t .nilIface .nilIface).run P w=.ok true w:=fun d=>by
  simp [Op.equalIn,run_underlying h]
 exact this 9999
theorem lit_sound{o:Oper}{a:Act}{op:BinOp}{t t':TypeId}{x y:Operand}{va vb:Value}{r:SB}{ms ms':List (Option (Option MO))}{q:List Prop}(hc:Core B E m w)(ho:o.op=.binOp op t x y t') 
  (hv:Vals E a.eval [x,y] [.v (.c (.lit va)),.v (.c (.lit vb))]) (hact:actLit P op t (isConst y) va vb ms=some (r,ms',q)) (hq:allP q):Done P B E m r o a w:=by
 obtain ⟨v1,v2,heq,hx,hy⟩:=vals2 hv
 cases heq
 have e1:a.eval x=va:=by
  have h:RelK E.K (.lit va) (a.eval x):=relSB_c hx
  generalize a.eval x=u at h ⊢
  cases h;rfl
 have e2:a.eval y=vb:=by
  have h:RelK E.K (.lit vb) (a.eval y):=relSB_c hy
  generalize a.eval y=u at h ⊢
  cases h;rfl
 unfold actLit at hact
 split at hact
 ·rename_i m n
  have hg:∀ op,(eqGuard op t x y (.float .f64 m) (.float .f64 n)).run P w=.ok () w:=fun op=>by unfold eqGuard;cases op<;>simp
  split at hact
  ·cases hact
   have hq:(FloatKind.f64.format.mul m n).isSome=true:=hq
   obtain ⟨r,hr⟩:=Option.isSome_iff_exists.1 hq
   rw [hr]
   refine done_value (u:=.float .f64 r) hc ?_ ⟨RelK.lit _ rfl,rfl⟩
   simp only [execOp,ho,e1,e2,Sem.run_bind,hg,Result.andThen_ok,binOp,Op.floatArith,hr,Sem.run_pure,ne_eq,not_true_eq_false,if_false]
  ·cases hact
   refine done_value (u:=.bool (FloatKind.f64.format.order m n==some .lt)) hc ?_ rel_bool
   simp only [execOp,ho,e1,e2,Sem.run_bind,hg,Result.andThen_ok,binOp,Op.floatCmp,Sem.run_pure,ne_eq,not_true_eq_false,if_false]
  ·cases hact
   refine done_value (u:=.bool (FloatKind.f64.format.order m n==some .gt)) hc ?_ rel_bool
   simp only [execOp,ho,e1,e2,Sem.run_bind,hg,Result.andThen_ok,binOp,Op.floatCmp,Sem.run_pure,ne_eq,not_true_eq_false,if_false]
  ·cases hact
 ·have hg:isConst y=true→∀ op,(eqGuard op t x y .nilIface .nilIface).run P w=.ok () w:=fun hy op=>by
   cases y<;>simp [isConst] at hy
   unfold eqGuard;cases op<;>simp
  split at hact
  ·rename_i ms1 hu hyc
   cases hact
   refine done_value (u:=.bool true) hc ?_ rel_bool
   simp only [execOp,ho,e1,e2,Sem.run_bind,hg hyc,Result.andThen_ok,binOp,run_equal_iface w t hu,Sem.run_pure]
  ·rename_i ms1 hu hyc
   cases hact
   refine done_value (u:=.bool false) hc ?_ rel_bool
   simp only [execOp,ho,e1,e2,Sem.run_bind,hg hyc,Result.andThen_ok,binOp,run_equal_iface w t hu,Sem.run_pure,Bool.not_true]
  ·cases hact
 ·cases hact
theorem run_fieldAt{t:TypeId}{fs:Array Field}{fl:Nat}{f:Field}{b off:Nat}(hu:P.underlying t=some (.struct fs))(hf:fs[fl]?=some f)(hsz:0<sizeT P f.type):
  (Instr.fieldAt t (.pointer (some ⟨b,off,none⟩)) fl).run P w=.ok (.pointer (some ⟨b,off+f.offset,none⟩)) w:=by
 unfold Instr.fieldAt
 rw [Sem.run_bind,run_underlying hu]
 simp only [Result.andThen_ok]
 rw [hf]
 simp only [Instr.sureAddr,Sem.run_bind,Sem.run_pure,Result.andThen_ok,fieldPlace,run_sizeOf hsz]
 rw [if_neg (by omega)]
 simp only [Sem.run_pure,Result.andThen_ok,Addr.add_lit]
theorem fieldAddr_sound{o:Oper}{a:Act}{t:TypeId}{x:Operand}{fl:Nat}{vs:List SB}{r:SB}{ms ms':List (Option (Option MO))}{q:List Prop}(hc:Core B E m w)(ho:o.op=.fieldAddr t x fl) 
  (hms:ms=(Op.names o.op o.dst vs).map (getM m)) (hv:Vals E a.eval [x] vs) (hact:actFieldAddr P t fl vs ms=some (r,ms',q)) (hq:allP q):Done P B E m r o a w:=by
 obtain ⟨v,rfl,hx⟩:=vals1 hv
 unfold actFieldAddr at hact
 split at hact
 ·rename_i fs hu
  split at hact
  ·rename_i f hf
   have hpos:=ckPos_spec (ck_some hact).1
   replace hact:=(ck_some hact).2
   have go:∀ {b off:Nat} {r:SB},0<sizeT P f.type→a.eval x=.pointer (some ⟨b,off,none⟩)→RelSB E r (.pointer (some ⟨b,off+f.offset,none⟩))→Done P B E m r o a w:=by
    intro b off r hs he hr
    refine done_value hc ?_ hr
    simp only [execOp,ho,he,Sem.run_bind,run_fieldAt hu hf hs,Result.andThen_ok,Sem.run_pure]
   split at hact
   ·rename_i n off heq
    cases heq
    cases hact
    obtain ⟨b,hb,he⟩:RelP E n off (a.eval x):=relSB_c hx
    exact go hpos he ⟨⟨b,hb,rfl⟩,rfl⟩
   ·rename_i cs off heq
    cases heq
    cases hact
    have hk:RelK E.K (.kptr cs off) (a.eval x):=relSB_c hx
    generalize he:a.eval x=u at hk
    cases hk with
    | kptr _ _ b arr T fz hK hs hr h1=>exact go hpos he ⟨RelK.kptr cs _ b arr T fz hK hs hr h1,rfl⟩
   ·rename_i sz n g i off heq
    cases heq
    cases hact
    have hk:RelK E.K (.kel sz n g i off) (a.eval x):=relSB_c hx
    generalize he:a.eval x=u at hk
    cases hk with
    | kel _ _ _ _ _ b off' arr T fz g' hK hg hl hr h1 hi =>
     have:=RelK.kel sz n g i (off+f.offset) b off' arr T fz g' hK hg hl hr h1 hi
     rw [← Nat.add_assoc] at this
     exact go hpos he ⟨this,rfl⟩
   ·rename_i rr n sz i off heq
    cases heq
    simp only [ho,Op.names,List.map_cons,List.map_nil] at hms
    split at hact
    ·rename_i e' sz' css
     cases hact
     have hm':m[rr]?=some (some (.row e' sz' css)):=by simpa [getM] using hms.symm
     obtain ⟨hd,len,h1,h2,h3⟩:∃ hd len,E.rw rr=some (hd,len)∧n≤len∧(n=len→∃ g cap,hd=.slice (some ⟨g,0,none⟩) n cap∧a.eval x=.pointer (some ⟨g,i*sz+off,none⟩)):=relSB_c hx
     have hlen:len=css.length:=by
      obtain ⟨_,_,hd',xs,hrw',_⟩:=hc.row hm'
      rw [h1] at hrw'
      cases hrw'
      rfl
     have hq':n=css.length:=hq
     obtain ⟨g,cap,hhd,he⟩:=h3 (by omega)
     refine go hpos he ⟨⟨hd,len,h1,h2,fun _=>⟨g,cap,hhd,by rw [← Nat.add_assoc]⟩⟩,rfl⟩
    ·cases hact
   ·cases hact
  ·cases hact
 ·cases hact
theorem run_field{t:TypeId}{fs:Array Field}{fl:Nat}{f:Field}{arr:Array Value}(hu:P.underlying t=some (.struct fs))(hf:fs[fl]?=some f)(ht:tyOk P f.type=true)(hoff:f.offset+sizeT P f.type≤arr.size):
  (Instr.field t (.agg arr) fl).run P w=.ok (if isAggT P f.type then .agg (arr.extract f.offset (f.offset+sizeT P f.type)) else arr.getD f.offset undef) w:=by
 unfold Instr.field
 rw [Sem.run_bind,run_underlying hu]
 simp only [Result.andThen_ok,hf]
 simp only [asAgg,Sem.run_bind,Sem.run_pure,Result.andThen_ok,Go.part,run_isAgg ht]
 cases hag:isAggT P f.type with
 | true=>simp only [if_true,Sem.run_bind,run_sizeOf (tyOk_pos ht),Result.andThen_ok,Sem.run_pure]
 | false =>
  have h1:=tyOk_one ht hag
  have h2:f.offset<arr.size:=by omega
  simp [Array.getElem?_eq_getElem h2]
theorem field_sound{o:Oper}{a:Act}{t:TypeId}{x:Operand}{fl:Nat}{vs:List SB}{r:SB}{ms ms':List (Option (Option MO))}{q:List Prop}(hc:Core B E m w)(ho:o.op=.field t x fl) 
  (hv:Vals E a.eval [x] vs) (hact:actField P t fl vs ms=some (r,ms',q)) (hq:allP q):Done P B E m r o a w:=by
 obtain ⟨v,rfl,hx⟩:=vals1 hv
 unfold actField at hact
 split at hact
 ·rename_i fs hu
  split at hact
  ·rename_i f hf
   split at hact
   ·rename_i cs heq
    cases heq
    obtain ⟨hck,hact⟩:=ck_some hact
    cases hact
    obtain ⟨hq,hty⟩:=ckPart_spec hck
    obtain ⟨arr,he,hrel⟩:∃ arr,a.eval x=.agg arr∧RelLK E.K cs arr:=hx
    refine done_value (u:=if isAggT P f.type then .agg (arr.extract f.offset (f.offset+sizeT P f.type)) else arr.getD f.offset undef) hc ?_ ?_
    ·simp only [execOp,ho,he,Sem.run_bind,run_field (arr:=arr) hu hf hty (by have:=hrel.1;omega),Result.andThen_ok,Sem.run_pure]
    ·have:=part_k (P:=P) (E:=E) (base:=0) (arr:=arr) hty hq (by have:=hrel.1;omega) (fun j hj=>by simpa using hrel.2 j hj)
     simp only [Nat.zero_add] at this
     exact this
   ·cases hact
  ·cases hact
 ·cases hact
theorem indexAddr_sound{o:Oper}{a:Act}{t:TypeId}{x y:Operand}{vs:List SB}{r:SB}{ms ms':List (Option (Option MO))}{q:List Prop}(hc:Core B E m w)(ho:o.op=.indexAddr t x y) 
  (hms:ms=(Op.names o.op o.dst vs).map (getM m)) (hv:Vals E a.eval [x,y] vs) (hact:actIndexAddr P t vs ms=some (r,ms',q)) (hq:allP q):Done P B E m r o a w:=by
 obtain ⟨v1,v2,rfl,hx,hy⟩:=vals2 hv
 unfold actIndexAddr at hact
 split at hact
 ·rename_i c k j heq
  cases heq
  have e2:=relSB_int hy
  split at hact
  ·rename_i e hu
   have go:∀ {b off len cap:Nat} {r:SB},0<sizeT P e→a.eval x=.slice (some ⟨b,off,none⟩) len cap→0≤j→j<len→RelSB E r (.pointer (some ⟨b,off+j.toNat*sizeT P e,none⟩))→Done P B E m r o a w:=by
    intro b off len cap r hs he h0 h1 hr
    refine done_value hc ?_ hr
    simp only [execOp,ho,he,e2,Instr.indexAt,asIntOf,Sem.run_bind,Sem.run_pure,run_underlying hu,Result.andThen_ok]
    rw [if_pos ⟨h0,h1⟩]
    simp only [Sem.run_bind,run_sizeOf hs,Result.andThen_ok,Sem.run_pure,Addr.add_lit]
   split at hact
   ·rename_i sz n f
    obtain ⟨hck,hact⟩:=ck_some hact
    cases hact
    obtain ⟨h0,h1⟩:=hq
    obtain ⟨hsz,hs⟩:=ckElem_spec hck
    have hk:RelK E.K (.lst sz n f) (a.eval x):=relSB_c hx
    generalize he:a.eval x=u at hk
    cases hk with
    | lst0=>omega
    | lst1=>omega
    | lst _ _ _ b off cap arr T fz g hK hg hl hr h1' hcap hmx =>
     have hi:j.toNat<n:=by omega
     have:=RelK.kel sz n f j.toNat 0 b off arr T fz g hK hg hl hr h1' hi
     rw [Nat.add_zero,hsz] at this
     subst hsz
     exact go hs he h0 h1 ⟨this,rfl⟩
   ·rename_i rr n
    simp only [ho,Op.names,List.map_cons,List.map_nil] at hms
    split at hact
    ·rename_i e' sz' css
     obtain ⟨hck,hact⟩:=ck_some hact
     cases hact
     obtain ⟨⟨h0,h1⟩,hn⟩:=hq
     obtain ⟨_,hs⟩:=ckElem_spec hck
     have hm':m[rr]?=some (some (.row e' sz' css)):=by simpa [getM] using hms.symm
     obtain ⟨hd,len,g1,g2,g3⟩:∃ hd len,E.rw rr=some (hd,len)∧n≤len∧(n=len→a.eval x=hd):=relSB_c hx
     have hM:=hc.row hm'
     have hlen:len=css.length:=by
      obtain ⟨_,_,hd',xs,hrw',_⟩:=hM
      rw [g1] at hrw'
      cases hrw'
      rfl
     have hxe:=g3 (by omega)
     obtain ⟨_,_,hd',xs,hrw',⟨_,hcase⟩,_⟩:=hM
     rw [g1] at hrw'
     cases hrw'
     rcases hcase with ⟨_,h00⟩ | ⟨g,cap,cur,hv',_⟩
     ·omega
     ·rw [hv'] at hxe
      have hr:=go (r:=.v (.c (.rel rr n (sizeT P e) j.toNat 0))) hs hxe h0 (by omega) ⟨⟨hd,css.length,g1,by omega,fun _=>⟨g,cap,by rw [hv',hn],by simp⟩⟩,rfl⟩
      exact hr
    ·cases hact
   ·cases hact
  ·rename_i n e hu
   have hs:=ckPos_spec (ck_some hact).1
   replace hact:=(ck_some hact).2
   have go:∀ {b off:Nat} {r:SB},0<sizeT P e→a.eval x=.pointer (some ⟨b,off,none⟩)→0≤j→j<n→RelSB E r (.pointer (some ⟨b,off+j.toNat*sizeT P e,none⟩))→Done P B E m r o a w:=by
    intro b off r hs he h0 h1 hr
    refine done_value hc ?_ hr
    simp only [execOp,ho,he,e2,Instr.indexAt,asIntOf,Instr.sureAddr,Sem.run_bind,Sem.run_pure,run_underlying hu,Result.andThen_ok]
    rw [if_pos ⟨h0,h1⟩]
    simp only [Sem.run_bind,run_sizeOf hs,Result.andThen_ok,Sem.run_pure,Addr.add_lit]
   split at hact
   ·rename_i mm off
    cases hact
    obtain ⟨h0,h1⟩:=hq
    obtain ⟨b,hb,he⟩:RelP E mm off (a.eval x):=relSB_c hx
    exact go hs he h0 h1 ⟨⟨b,hb,rfl⟩,rfl⟩
   ·rename_i cs off
    cases hact
    obtain ⟨h0,h1⟩:=hq
    have hk:RelK E.K (.kptr cs off) (a.eval x):=relSB_c hx
    generalize he:a.eval x=u at hk
    cases hk with
    | kptr _ _ b arr T fz hK hs' hr h1'=>exact go hs he h0 h1 ⟨RelK.kptr cs _ b arr T fz hK hs' hr h1',rfl⟩
   ·rename_i sz mm f i off
    cases hact
    obtain ⟨h0,h1⟩:=hq
    have hk:RelK E.K (.kel sz mm f i off) (a.eval x):=relSB_c hx
    generalize he:a.eval x=u at hk
    cases hk with
    | kel _ _ _ _ _ b off' arr T fz g' hK hg hl hr h1' hi =>
     have:=RelK.kel sz mm f i (off+j.toNat*sizeT P e) b off' arr T fz g' hK hg hl hr h1' hi
     rw [← Nat.add_assoc] at this
     exact go hs he h0 h1 ⟨this,rfl⟩
   ·rename_i rr mm sz i off
    simp only [ho,Op.names,List.map_cons,List.map_nil] at hms
    split at hact
    ·rename_i e' sz' css
     cases hact
     obtain ⟨⟨h0,h1⟩,hq'⟩:=hq
     have hm':m[rr]?=some (some (.row e' sz' css)):=by simpa [getM] using hms.symm
     obtain ⟨hd,len,g1,g2,g3⟩:∃ hd len,E.rw rr=some (hd,len)∧mm≤len∧(mm=len→∃ g cap,hd=.slice (some ⟨g,0,none⟩) mm cap∧a.eval x=.pointer (some ⟨g,i*sz+off,none⟩)):=relSB_c hx
     have hlen:len=css.length:=by
      obtain ⟨_,_,hd',xs,hrw',_⟩:=hc.row hm'
      rw [g1] at hrw'
      cases hrw'
      rfl
     obtain ⟨g,cap,hhd,he⟩:=g3 (by omega)
     refine go hs he h0 h1 ⟨⟨hd,len,g1,g2,fun _=>⟨g,cap,hhd,by rw [← Nat.add_assoc]⟩⟩,rfl⟩
    ·cases hact
   ·cases hact
  ·cases hact
 ·cases hact
theorem index_sound{o:Oper}{a:Act}{t:TypeId}{x y:Operand}{vs:List SB}{r:SB}{ms ms':List (Option (Option MO))}{q:List Prop}(hc:Core B E m w)(ho:o.op=.index t x y) 
  (hv:Vals E a.eval [x,y] vs) (hact:actIndex P t vs ms=some (r,ms',q)) (hq:allP q):Done P B E m r o a w:=by
 obtain ⟨v1,v2,rfl,hx,hy⟩:=vals2 hv
 unfold actIndex at hact
 split at hact
 ·rename_i cs k j heq
  cases heq
  have e2:=relSB_int hy
  split at hact
  ·rename_i n e hu
   obtain ⟨hck,hact⟩:=ck_some hact
   cases hact
   obtain ⟨h0,h1⟩:=hq
   obtain ⟨hlen,hty⟩:=ckArr_spec hck
   obtain ⟨arr,he,hrel⟩:∃ arr,a.eval x=.agg arr∧RelLK E.K cs arr:=hx
   have hmul:(j.toNat+1)*sizeT P e≤n*sizeT P e:=Nat.mul_le_mul_right _ (by omega)
   rw [Nat.add_mul,Nat.one_mul] at hmul
   have hsz:=hrel.1
   refine done_value (u:=if isAggT P e then .agg (arr.extract (j.toNat*sizeT P e) (j.toNat*sizeT P e+sizeT P e)) else arr.getD (j.toNat*sizeT P e) undef) hc ?_ ?_
   ·simp only [execOp,ho,he,e2,Instr.index,asIntOf,Sem.run_bind,Sem.run_pure,run_underlying hu,Result.andThen_ok]
    rw [if_pos ⟨h0,h1⟩]
    simp only [Sem.run_bind,run_sizeOf (tyOk_pos hty),Result.andThen_ok,Go.part,run_isAgg hty]
    cases hag:isAggT P e with
    | true=>simp only [if_true,Sem.run_bind,run_sizeOf (tyOk_pos hty),Result.andThen_ok,Sem.run_pure]
    | false =>
     have h1:=tyOk_one hty hag
     have h2:j.toNat*sizeT P e<arr.size:=by omega
     simp [Array.getElem?_eq_getElem h2]
   ·have:=part_k (P:=P) (E:=E) (cs:=cs) (off:=j.toNat*sizeT P e) (base:=0) (arr:=arr) hty (by omega) (by omega) (fun j hj=>by simpa using hrel.2 j hj)
    simp only [Nat.zero_add] at this
    exact this
  ·cases hact
 ·rename_i st k j heq
  cases heq
  have e1:=relSB_str hx
  have e2:=relSB_int hy
  split at hact
  ·rename_i hu
   cases hact
   obtain ⟨h0,h1⟩:=hq
   have hlt:j.toNat<st.size:=by omega
   have hs:st[j.toNat]?=some st[j.toNat]:=getElem?_pos st j.toNat hlt
   refine done_value (u:=.int .u8 (byteAt st j.toNat)) hc ?_ ⟨RelK.int _ _,rfl⟩
   simp only [execOp,ho,e1,e2,Instr.index,asIntOf,Sem.run_bind,Sem.run_pure,run_underlying hu,Result.andThen_ok]
   rw [if_pos h0,hs]
   simp only [byteAt,hs,Option.getD_some,Sem.run_pure,Result.andThen_ok]
  ·cases hact
 ·cases hact
theorem extract_sound{o:Oper}{a:Act}{x:Operand}{i:Nat}{vs:List SB}{r:SB}{ms ms':List (Option (Option MO))}{q:List Prop}(hc:Core B E m w)(ho:o.op=.extract x i) 
  (hv:Vals E a.eval [x] vs) (hact:actExtract i vs ms=some (r,ms',q)):Done P B E m r o a w:=by
 obtain ⟨v,rfl,hx⟩:=vals1 hv
 unfold actExtract at hact
 split at hact
 ·rename_i xs heq
  cases heq
  split at hact
  ·rename_i y hy
   cases hact
   obtain ⟨us,he,hs,hrel⟩:∃ us:Array Value,a.eval x=.tuple us∧us.size=xs.length∧∀ j,j<xs.length→RelCV E (xs.getD j (.c .junk)) (us.getD j undef):=hx
   have hi:i<xs.length:=(List.getElem?_eq_some_iff.1 hy).1
   have hr:=hrel i hi
   have e1:xs.getD i (.c .junk)=y:=by simp [gE,hy]
   have e2:us.getD i undef=us[i]'(by omega):=by simp [Array.getElem?_eq_getElem (show i<us.size by omega)]
   rw [e1,e2] at hr
   refine done_value (u:=us[i]'(by omega)) hc ?_ hr
   simp [execOp,ho,he,Instr.extract,Array.getElem?_eq_getElem (show i<us.size by omega)]
  ·cases hact
 ·cases hact
theorem len_sound{o:Oper}{a:Act}{c:Call}{t:TypeId}{x:Operand}{vs:List SB}{r:SB}{ms ms':List (Option (Option MO))}{q:List Prop}(hc:Core B E m w)(ho:o.op=.call c)(hcal:c.callee=.builtin .len)(hargs:c.args.toList=[x]) 
  (hty:c.argTypes.toList=[t]) (hms:ms=(Op.names o.op o.dst vs).map (getM m)) (hv:Vals E a.eval [x] vs) (hact:actLen P t vs ms=some (r,ms',q)) (hq:allP q):Done P B E m r o a w:=by
 obtain ⟨v,rfl,hx⟩:=vals1 hv
 obtain ⟨callee,args,argTypes⟩:=c
 subst hcal
 obtain rfl:args=#[x]:=by apply Array.ext';simpa using hargs
 obtain rfl:argTypes=#[t]:=by apply Array.ext';simpa using hty
 have go:∀ {n:Int} {u:Value} {d:TypeDesc},P.underlying t=some d→a.eval x=u→(Builtin.len_ #[t] o.type #[u]).run P w=.ok (.int .i64 n) w→Done P B E m (.v (.c (.int .i64 n))) o a w:=by
  intro n u d hd he hr
  refine done_value (u:=.int .i64 n) hc ?_ rel_int
  simp only [execOp,ho,resolve,invoke,builtin,Sem.run_bind,Sem.run_pure,Result.andThen_ok,List.map_toArray,List.map_cons,List.map_nil,he,hr]
 unfold actLen at hact
 split at hact
 ·rename_i y heq
  cases heq
  split at hact
  ·rename_i e sz n f hu
   cases hact
   have hk:RelK E.K (.lst sz n f) (a.eval x):=relSB_c hx
   generalize he:a.eval x=u at hk
   cases hk with
   | lst0=>exact go hu he (by simp [Builtin.len_,run_underlying hu,goInt])
   | lst1=>exact go hu he (by simp [Builtin.len_,run_underlying hu,goInt])
   | lst=>exact go hu he (by simp [Builtin.len_,run_underlying hu,goInt])
  ·rename_i e hu
   cases hact
   have hk:RelK E.K .nil (a.eval x):=relSB_c hx
   generalize he:a.eval x=u at hk
   cases hk
   exact go hu he (by simp [Builtin.len_,run_underlying hu,goInt])
  ·rename_i e rr n hu
   simp only [ho,Op.names,List.map_cons,List.map_nil] at hms
   split at hact
   ·rename_i e' sz' css
    cases hact
    have hm':m[rr]?=some (some (.row e' sz' css)):=by simpa [getM] using hms.symm
    obtain ⟨hd,len,g1,g2,g3⟩:∃ hd len,E.rw rr=some (hd,len)∧n≤len∧(n=len→a.eval x=hd):=relSB_c hx
    have hM:=hc.row hm'
    obtain ⟨_,_,hd',xs,hrw',⟨_,hcase⟩,_⟩:=hM
    rw [g1] at hrw'
    cases hrw'
    have hq:n=css.length:=hq
    have hxe:=g3 (by omega)
    rcases hcase with ⟨hv',h00⟩ | ⟨g,cap,cur,hv',_⟩
    ·rw [hv'] at hxe
     have:n=0:=by omega
     subst this
     exact go hu hxe (by simp [Builtin.len_,run_underlying hu,goInt])
    ·rw [hv'] at hxe
     subst hq
     exact go hu hxe (by simp [Builtin.len_,run_underlying hu,goInt])
   ·cases hact
  ·rename_i s hu
   cases hact
   have he:=relSB_str hx
   exact go hu he (by simp [Builtin.len_,run_underlying hu,goInt])
  ·rename_i kt et kagg agg ents hu
   cases hact
   have hk:RelK E.K (.kmap kagg agg ents) (a.eval x):=relSB_c hx
   generalize he:a.eval x=u at hk
   cases hk with
   | kmap _ _ _ b es g hK hs hst hg hkl hk1 hko hka hl hr ho2 ha2 =>
    have hb:=hc.know _ _ hK
    exact go hu he (by simp [Builtin.len_,run_underlying hu,goInt,MapKept.run_getObj_map hb,hs])
  ·rename_i kt et n hu
   simp only [ho,Op.names,List.map_cons,List.map_nil] at hms
   split at hact
   ·rename_i kagg agg ents
    cases hact
    have hm':m[n]?=some (some (.omap kagg agg ents)):=by simpa [getM] using hms.symm
    obtain ⟨b,es,hmp,hb,hrel⟩:=hc.mem n _ hm'
    obtain ⟨b',hb',hu'⟩:∃ b,E.mp n=some b∧a.eval x=.map (some b):=relSB_c hx
    rw [hmp] at hb'
    cases hb'
    exact go hu hu' (by simp [Builtin.len_,run_underlying hu,goInt,MapKept.run_getObj_map hb,hrel.1])
   ·cases hact
  ·cases hact
 ·cases hact
theorem minmax_sound{o:Oper}{a:Act}{c:Call}{mx:Bool}{x y:Operand}{vs:List SB}{r:SB}{ms ms':List (Option (Option MO))}{q:List Prop}(hc:Core B E m w)(ho:o.op=.call c) 
  (hcal:c.callee=.builtin (if mx then .max else .min)) (hargs:c.args.toList=[x,y]) (hv:Vals E a.eval [x,y] vs) (hact:actMinMax mx vs ms=some (r,ms',q)):Done P B E m r o a w:=by
 obtain ⟨v1,v2,rfl,hx,hy⟩:=vals2 hv
 obtain ⟨callee,args,argTypes⟩:=c
 subst hcal
 obtain rfl:args=#[x,y]:=by apply Array.ext';simpa using hargs
 unfold actMinMax at hact
 split at hact
 ·rename_i k n1 k' n2 heq
  cases heq
  have e1:=relSB_int hx
  have e2:=relSB_int hy
  split at hact
  ·rename_i hk
   have:=kindEq_eq hk
   subst this
   cases hact
   cases mx with
   | true =>
    refine done_value (u:=.int k (if n2>n1 then n2 else n1)) hc ?_ rel_int
    simp [execOp,ho,resolve,invoke,builtin,e1,e2,Builtin.max_,Builtin.max2]
   | false =>
    refine done_value (u:=.int k (if n2<n1 then n2 else n1)) hc ?_ rel_int
    simp [execOp,ho,resolve,invoke,builtin,e1,e2,Builtin.min_,Builtin.min2]
  ·cases hact
 ·cases hact
theorem minmax3_sound{o:Oper}{a:Act}{c:Call}{mx:Bool}{x y z:Operand}{vs:List SB}{r:SB}{ms ms':List (Option (Option MO))}{q:List Prop}(hc:Core B E m w)(ho:o.op=.call c) 
  (hcal:c.callee=.builtin (if mx then .max else .min)) (hargs:c.args.toList=[x,y,z]) (hv:Vals E a.eval [x,y,z] vs) (hact:actMinMax3 mx vs ms=some (r,ms',q)):Done P B E m r o a w:=by
 obtain ⟨v1,v2,v3,rfl,hx,hy,hz⟩:=vals3 hv
 obtain ⟨callee,args,argTypes⟩:=c
 subst hcal
 obtain rfl:args=#[x,y,z]:=by apply Array.ext';simpa using hargs
 unfold actMinMax3 at hact
 split at hact
 ·rename_i k n1 k' n2 k'' n3 heq
  cases heq
  have e1:=relSB_int hx
  have e2:=relSB_int hy
  have e3:=relSB_int hz
  split at hact
  ·rename_i hk
   rw [Bool.and_eq_true] at hk
   have h1:=kindEq_eq hk.1
   have h2:=kindEq_eq hk.2
   subst h1
   subst h2
   cases hact
   cases mx with
   | true =>
    refine done_value (u:=.int k (if n3>(if n2>n1 then n2 else n1) then n3 else (if n2>n1 then n2 else n1))) hc ?_ rel_int
    simp [execOp,ho,resolve,invoke,builtin,e1,e2,e3,Builtin.max_,Builtin.max2]
   | false =>
    refine done_value (u:=.int k (if n3<(if n2<n1 then n2 else n1) then n3 else (if n2<n1 then n2 else n1))) hc ?_ rel_int
    simp [execOp,ho,resolve,invoke,builtin,e1,e2,e3,Builtin.min_,Builtin.min2]
  ·cases hact
 ·cases hact
end Go.Sym
namespace Go.Sym
open Go.RowKit
variable {P:Program} {B:Base P} {E:Env} {m:List (Option MO)} {w:World}
theorem run_sizeOf'{t:TypeId}(h:(P.info? t).isSome=true):(sizeOf t).run P w=.ok (sizeT P t) w:=by
 obtain ⟨i,hi⟩:=Option.isSome_iff_exists.1 h
 simp [sizeOf,typeInfo,hi,sizeT]
theorem run_places(fs:Array Field)(h:haveInfo P fs=true):
  (fs.mapM fun (f:Field)=>(do pure (f.offset,← sizeOf f.type):Sem (Nat×Nat))).run P w=.ok (fs.map fun (f:Field)=>(f.offset,sizeT P f.type)) w:=by
 rw [Array.mapM_eq_mapM_toList]
 have key:∀ l:List Field,(∀ f∈l,(P.info? f.type).isSome=true) →
   (l.mapM fun f=>(do pure (f.offset,← sizeOf f.type):Sem (Nat×Nat))).run P w=.ok (l.map fun f=>(f.offset,sizeT P f.type)) w:=by
  intro l
  induction l with
  | nil=>intro _;simp
  | cons f l ih =>
   intro hl
   have h1:=run_sizeOf' (w:=w) (hl f List.mem_cons_self)
   have h2:=ih (fun g hg=>hl g (List.mem_cons_of_mem _ hg))
   simp only [List.mapM_cons,Sem.run_bind,h1,Result.andThen_ok,Sem.run_pure,h2,List.map_cons]
 simp only [Sem.run_map]
 have hl:∀ f∈fs.toList,(P.info? f.type).isSome=true:=by
  intro f hf
  have:=(Array.all_eq_true.1 h)
  obtain ⟨i,hi,rfl⟩:=List.getElem_of_mem hf
  exact this i (by simpa using hi)
 rw [key fs.toList hl]
 simp only [Result.andThen_ok]
 congr 1
 apply Array.ext'
 simp
theorem foldl_splice(off:Nat):∀ (l:List Value) (k:Nat) (cells:Array Value),off+k+l.length≤cells.size →
  (l.zipIdx k).foldl (fun cs (p:Value×Nat)=>cs.setIfInBounds (off+p.2) p.1) cells=spliceA cells (off+k) l:=by
 intro l
 induction l with
 | nil =>
  intro k cells _
  unfold spliceA
  simp
 | cons v l ih =>
  intro k cells h
  simp only [List.length_cons] at h
  simp only [List.zipIdx_cons,List.foldl_cons]
  rw [ih (k+1) _ (by simp;omega)]
  apply Array.ext
  ·rw [spliceA_size _ _ _ (by simp;omega),spliceA_size _ _ _ (by simp;omega)];simp
  ·intro j h1 h2
   have e1:=spliceA_getD (cells.setIfInBounds (off+k) v) l (off+(k+1)) j (by simp;omega)
   have e2:=spliceA_getD cells (v :: l) (off+k) j (by simp;omega)
   have a1:(spliceA (cells.setIfInBounds (off+k) v) (off+(k+1)) l).getD j undef=(spliceA (cells.setIfInBounds (off+k) v) (off+(k+1)) l)[j]:=by simp [h1]
   have a2:(spliceA cells (off+k) (v :: l)).getD j undef=(spliceA cells (off+k) (v :: l))[j]:=by simp [h2]
   rw [← a1,← a2,e1,e2]
   simp only [List.length_cons]
   by_cases hj:off+(k+1)≤j∧j<off+(k+1)+l.length
   ·rw [if_pos hj,if_pos (by omega)]
    have:j - (off+k)=(j - (off+(k+1)))+1:=by omega
    rw [this]
    simp [gE]
   ·rw [if_neg hj]
    by_cases hjk:j=off+k
    ·subst hjk
     rw [if_pos (by omega)]
     have:off+k<cells.size:=by omega
     simp [this]
    ·rw [if_neg (by omega)]
     simp [Ne.symm hjk]
theorem fill_sound{place:Nat→Option (Nat×Nat)}:∀ {parts:List (Nat×CV)} {us:List (Nat×Value)} {cs r:List C} {arr:Array Value},fillC place cs parts=some r→parts.length=us.length →
  (∀ (j:Nat) (p:Nat×CV) (u:Nat×Value),parts[j]?=some p→us[j]?=some u→p.1=u.1∧RelCV E p.2 u.2)→RelL E cs arr→∃ arr',Instr.fill place arr us=some arr'∧RelL E r arr':=by
 intro parts
 induction parts with
 | nil =>
  intro us cs r arr h hlen hrel hc
  simp only [fillC] at h
  cases h
  cases us with
  | nil=>exact ⟨arr,rfl,hc⟩
  | cons u us=>simp at hlen
 | cons p parts ih =>
  intro us cs r arr h hlen hrel hc
  obtain ⟨i,v⟩:=p
  cases us with
  | nil=>simp at hlen
  | cons u us =>
   obtain ⟨i',u⟩:=u
   obtain ⟨hi,hv⟩:=hrel 0 _ _ rfl rfl
   simp only at hi hv
   subst hi
   simp only [fillC] at h
   cases hp:place i with
   | none=>simp [hp] at h
   | some os =>
    obtain ⟨off,size⟩:=os
    simp only [hp] at h
    split at h
    case h_2=>cases h
    case h_1 hck =>
     simp only [Bool.and_eq_true,Nat.beq_eq,Nat.ble_eq] at hck
     obtain ⟨h1,h2⟩:=hck
     have hf:=h
     have hcv:=cvCells_rel hv
     have hsz:u.cells.size=(cvCells v).length:=hcv.1
     have hsp:=splice_relG (R:=Rel E) h2 hc hcv
     obtain ⟨arr',e,hr⟩:=ih hf (by simpa using hlen) (fun j p u hj hu=>hrel (j+1) p u (by simpa using hj) (by simpa using hu)) hsp
     refine ⟨arr',?_,hr⟩
     simp only [Instr.fill,hp]
     have hcond:(u.cells.size≠size||decide (off+u.cells.size>arr.size))=false:=by
      have:=hc.1
      simp;omega
     have hfold:(u.cells.zipIdx.foldl (fun cs (x:Value×Nat)=>cs.setIfInBounds (off+x.2) x.1) arr)=spliceA arr off u.cells.toList:=by
      have:=foldl_splice off u.cells.toList 0 arr (by simp;have:=hc.1;omega)
      simp only [Nat.add_zero] at this
      rw [← this]
      rw [← Array.foldl_toList]
      simp
     rw [hcond,if_neg (by simp)]
     rw [hfold]
     exact e
theorem fill_imm{place:Nat→Option (Nat×Nat)}:∀ {parts:List (Nat×CV)} {us:List (Nat×Value)} {cs r:List C} {arr:Array Value},fillC place cs parts=some r→parts.length=us.length→allImmC parts=true →
  (∀ (j:Nat) (p:Nat×CV) (u:Nat×Value),parts[j]?=some p→us[j]?=some u→p.1=u.1∧RelCV E p.2 u.2)→RelLK E.K cs arr→∃ arr',Instr.fill place arr us=some arr'∧RelLK E.K r arr':=by
 intro parts
 induction parts with
 | nil =>
  intro us cs r arr h hlen _ hrel hc
  simp only [fillC] at h
  cases h
  cases us with
  | nil=>exact ⟨arr,rfl,hc⟩
  | cons u us=>simp at hlen
 | cons p parts ih =>
  intro us cs r arr h hlen himm hrel hc
  obtain ⟨i,v⟩:=p
  simp only [allImmC,Bool.and_eq_true] at himm
  cases us with
  | nil=>simp at hlen
  | cons u us =>
   obtain ⟨i',u⟩:=u
   obtain ⟨hi,hv⟩:=hrel 0 _ _ rfl rfl
   simp only at hi hv
   subst hi
   simp only [fillC] at h
   cases hp:place i with
   | none=>simp [hp] at h
   | some os =>
    obtain ⟨off,size⟩:=os
    simp only [hp] at h
    split at h
    case h_2=>cases h
    case h_1 hck =>
     simp only [Bool.and_eq_true,Nat.beq_eq,Nat.ble_eq] at hck
     obtain ⟨h1,h2⟩:=hck
     have hf:=h
     have hcv:=cvCells_relK himm.1 hv
     have hsz:u.cells.size=(cvCells v).length:=hcv.1
     have hsp:=splice_relG (R:=RelK E.K) h2 hc hcv
     obtain ⟨arr',e,hr⟩:=ih hf (by simpa using hlen) himm.2 (fun j p u hj hu=>hrel (j+1) p u (by simpa using hj) (by simpa using hu)) hsp
     refine ⟨arr',?_,hr⟩
     simp only [Instr.fill,hp]
     have hcond:(u.cells.size≠size||decide (off+u.cells.size>arr.size))=false:=by
      have:=hc.1
      simp;omega
     have hfold:(u.cells.zipIdx.foldl (fun cs (x:Value×Nat)=>cs.setIfInBounds (off+x.2) x.1) arr)=spliceA arr off u.cells.toList:=by
      have:=foldl_splice off u.cells.toList 0 arr (by simp;have:=hc.1;omega)
      simp only [Nat.add_zero] at this
      rw [← this]
      rw [← Array.foldl_toList]
      simp
     rw [hcond,if_neg (by simp)]
     rw [hfold]
     exact e
theorem zipParts_rel:∀ {ps:List (Nat×Operand)} {vs:List SB} {parts:List (Nat×CV)} {ρ:Operand→Value},zipParts ps vs=some parts→Vals E ρ (ps.map (·.2)) vs →
  parts.length=(ps.map fun p=>(p.1,ρ p.2)).length∧∀ (j:Nat) (p:Nat×CV) (u:Nat×Value),parts[j]?=some p→(ps.map fun p=>(p.1,ρ p.2))[j]?=some u→p.1=u.1∧RelCV E p.2 u.2:=by
 intro ps
 induction ps with
 | nil =>
  intro vs parts ρ h hv
  cases vs with
  | nil=>simp only [zipParts] at h;cases h;exact ⟨rfl,fun j p u hj=>by simp at hj⟩
  | cons v vs=>simp [zipParts] at h
 | cons p ps ih =>
  intro vs parts ρ h hv
  obtain ⟨i,x⟩:=p
  cases vs with
  | nil=>simp [zipParts] at h
  | cons v vs =>
   cases v with
   | tup xs=>simp [zipParts] at h
   | v y =>
    simp only [zipParts,Option.map_eq_some_iff] at h
    obtain ⟨parts',hp,rfl⟩:=h
    have hv':Vals E ρ (ps.map (·.2)) vs:=⟨by simpa using hv.1,fun j z u hj hu=>hv.2 (j+1) z u (by simpa using hj) (by simpa using hu)⟩
    obtain ⟨hl,hr⟩:=ih hp hv'
    refine ⟨by simpa using hl,fun j p u hj hu=>?_⟩
    cases j with
    | zero =>
     simp at hj hu
     subst hj hu
     exact ⟨rfl,hv.2 0 x _ rfl rfl⟩
    | succ j=>exact hr j p u (by simpa using hj) (by simpa using hu)
theorem build_sound{o:Oper}{a:Act}{t:TypeId}{ps:Array (Nat×Operand)}{vs:List SB}{r:SB}{ms ms':List (Option (Option MO))}{q:List Prop}(hc:Core B E m w)(ho:o.op=.build t ps) 
  (hv:Vals E a.eval (ps.toList.map (·.2)) vs) (hact:actBuild P t ps.toList vs ms=some (r,ms',q)):Done P B E m r o a w:=by
 unfold actBuild at hact
 split at hact
 ·rename_i parts z hz hzt
  obtain ⟨hlen,hrel⟩:=zipParts_rel hz hv
  split at hact
  case isFalse=>cases hact
  rename_i hzc
  have hzero:=zero_cells (E:=E) hzc
  have hps:(ps.map fun (p:Nat×Operand)=>(p.1,a.eval p.2)).toList=ps.toList.map fun p=>(p.1,a.eval p.2):=by simp
  have go:∀ {place:Nat→Option (Nat×Nat)} {cs:List C},fillC place (z.cells.toList.map valC) parts=some cs →
    (∀ arr',Instr.fill place z.cells (ps.toList.map fun p=>(p.1,a.eval p.2))=some arr'→(Instr.build t (ps.map fun (p:Nat×Operand)=>(p.1,a.eval p.2))).run P w=.ok (.agg arr') w) →
    Done P B E m (.v (if allImmC parts then .agg cs else .pagg cs)) o a w:=by
   intro place cs hf hrun
   cases him:allImmC parts with
   | true =>
    obtain ⟨arr',e,hr⟩:=fill_imm hf hlen him hrel hzero
    refine done_value (u:=.agg arr') hc ?_ ⟨arr',rfl,hr⟩
    have:=hrun arr' e
    simp only [execOp,ho,Sem.run_bind,this,Result.andThen_ok,Sem.run_pure]
   | false =>
    obtain ⟨arr',e,hr⟩:=fill_sound hf hlen hrel hzero.relL
    refine done_value (u:=.agg arr') hc ?_ ⟨arr',rfl,hr⟩
    have:=hrun arr' e
    simp only [execOp,ho,Sem.run_bind,this,Result.andThen_ok,Sem.run_pure]
  split at hact
  ·rename_i fs hu
   split at hact
   case isFalse=>cases hact
   rename_i hinf
   split at hact
   ·rename_i cs hf
    cases hact
    refine go hf ?_
    intro arr' e
    unfold Instr.build
    simp only [Sem.run_bind,run_zeroValue hzt,Result.andThen_ok,run_underlying hu,run_places fs hinf]
    have hpl:(fun (x:Nat)=>(fs.map fun (f:Field)=>(f.offset,sizeT P f.type))[x]?)=fun i=>(fs[i]?).map fun (f:Field)=>(f.offset,sizeT P f.type):=by
     funext i;simp
    rw [hpl,hps,e]
    rfl
   ·cases hact
  ·rename_i n el hu
   split at hact
   case isFalse=>cases hact
   rename_i hsz
   split at hact
   ·rename_i cs hf
    cases hact
    refine go hf ?_
    intro arr' e
    unfold Instr.build
    simp only [Sem.run_bind,run_zeroValue hzt,Result.andThen_ok,run_underlying hu,run_sizeOf (show 0<sizeT P el by simpa using hsz)]
    rw [hps,e]
    rfl
   ·cases hact
  ·cases hact
 ·cases hact
theorem Core.called{K':Know}{w':World}(hc:Core B E m w)(hle:E.K.le K')(hnew:∀ b,b<w.heap.size→E.K b=none→K' b=none)(hk:Knows K' w')(hb:Below w.heap.size w w'):
  E.Le { E with K:=K' }∧Core B { E with K:=K' } m w':=by
 have hE:E.Le { E with K:=K' }:=⟨hle,fun _ _ h=>h,fun _ _ h=>h,rfl,fun r hd len h=>⟨hd,len,h,Nat.le_refl _,fun _=>rfl⟩⟩
 have hbl:∀ n b,E.holds n b→w'.heap[b]?=w.heap[b]?:=fun n b h=>hb.block b (hc.lt n b h)
 refine ⟨hE,?_⟩
 exact
 {know:=hk
  laid:=hc.laid.mono hle
  base:=Know.le_trans hc.base hle
  nk:=fun b h1 h2=>hnew b (Nat.lt_of_lt_of_le h1 hc.size) (hc.nk b h1 h2)
  mem:=fun n o h=>MRel.mono hE ((hc.mem n o h).other fun b hb'=>hbl n b hb') rfl
  cel:=hc.cel
  rw:=hc.rw
  mp:=hc.mp
  inj:=hc.inj
  apart:=fun n b h=>hnew b (hc.lt n b h) (hc.apart n b h)
  new:=hc.new
  lt:=fun n b h=>Nat.lt_of_lt_of_le (hc.lt n b h) hb.size
  os:=hb.os.trans hc.os
  tape:=hb.tape.trans hc.tape
  output:=hb.output.trans hc.output
  size:=Nat.le_trans hc.size hb.size
  old:=fun b h1 h2=>(hb.block b (Nat.lt_of_lt_of_le h1 hc.size)).trans (hc.old b h1 h2)
  j:=hc.j
  y:=hc.y
  dsk:=fun D hD=>⟨hle _ _ (hc.dsk D hD).1,(hc.dsk D hD).2⟩
  dsn:=hc.dsn }
theorem callsIn_of_plain{r:Option Nat}{n:Nat}{f:FuncId}{args:Array Value}{R:Ending→World→Prop}(h:Calls P f args w R):CallsIn (FB r) n P f args w R:=by
 have h1:CallsIn Fence.wide n P f args w R:=callsIn_wide.2 h
 exact h1
theorem allV_rel:∀ {vs:List SB} {xs:List CV} {us:List Value},allV vs=some xs→vs.length=us.length→(∀ (j:Nat) (v:SB) (u:Value),vs[j]?=some v→us[j]?=some u→RelSB E v u) →
  xs.length=us.length∧∀ j,j<xs.length→RelCV E (xs.getD j (.c .junk)) (us.getD j undef):=by
 intro vs
 induction vs with
 | nil =>
  intro xs us h hl hr
  simp only [allV] at h
  cases h
  exact ⟨by simpa using hl,fun j hj=>by simp at hj⟩
 | cons v vs ih =>
  intro xs us h hl hr
  cases us with
  | nil=>simp at hl
  | cons u us =>
   cases v with
   | tup ys=>simp [allV] at h
   | v x =>
    simp only [allV,Option.map_eq_some_iff] at h
    obtain ⟨xs',hx,rfl⟩:=h
    obtain ⟨h1,h2⟩:=ih hx (by simpa using hl) (fun j v u hj hu=>hr (j+1) v u (by simpa using hj) (by simpa using hu))
    refine ⟨by simpa using h1,fun j hj=>?_⟩
    cases j with
    | zero=>exact hr 0 _ _ rfl rfl
    | succ j =>
     have:=h2 j (by simpa using hj)
     simpa [gE] using this
theorem allImm_get:∀ {xs:List CV},allImm xs=true→∀ j,j<xs.length→(xs.getD j (.c .junk)).isImm=true:=by
 intro xs
 induction xs with
 | nil=>intro _ j hj;simp at hj
 | cons x xs ih =>
  intro h j hj
  simp only [allImm,Bool.and_eq_true] at h
  cases j with
  | zero=>exact h.1
  | succ j =>
   have:=ih h.2 j (by simpa using hj)
   simpa [gE] using this
theorem callee_sound{o:Oper}{a:Act}{c:Call}{f:Operand}{vs:List SB}{r:SB}{ms ms':List (Option (Option MO))}{q:List Prop}{h:Hint}(hc:Core B E m w)(ho:o.op=.call c)(hcal:c.callee=.value f) 
  (hv:Vals E a.eval (f :: c.args.toList) vs) (hact:actCallee P vs ms h=some (r,ms',q)) (hq:allP q):Done P B E m r o a w:=by
 unfold actCallee at hact
 split at hact
 ·rename_i fn caps args
  split at hact
  ·rename_i r' xs hx
   split at hact
   case isFalse=>cases hact
   rename_i himm
   cases hact
   have hf:RelSB E (.v (.c (.clo fn caps))) (a.eval f):=hv.2 0 f _ rfl rfl
   have hk:RelK E.K (.clo fn caps) (a.eval f):=relSB_c hf
   generalize he:a.eval f=u at hk
   cases hk with
   | clo _ _ cvs hs hr h1 =>
    have hal:args.length=(c.args.toList.map a.eval).length:=by
     have:=hv.1
     simp at this ⊢
     exact this
    obtain ⟨l1,l2⟩:=allV_rel (E:=E) hx hal (fun j v u hj hu=>by
     rw [List.getElem?_map] at hu
     simp only [Option.map_eq_some_iff] at hu
     obtain ⟨z,hz,rfl⟩:=hu
     exact hv.2 (j+1) z v (by simpa using hz) (by simpa using hj))
    obtain ⟨⟨fnc,hfn,hbody,hname⟩,hcall⟩:=hq
    have hargs:(c.args.map a.eval++cvs).size=(xs++caps.map CV.c).length:=by
     simp at l1 ⊢
     omega
    have hrel:∀ j,j<(xs++caps.map CV.c).length→RelCVK E.K ((xs++caps.map CV.c).getD j (.c .junk)) ((c.args.map a.eval++cvs).getD j undef):=by
     intro j hj
     have l1':xs.length=c.args.size:=by simpa using l1
     by_cases hjx:j<xs.length
     ·have e1:(xs++caps.map CV.c).getD j (.c .junk)=xs.getD j (.c .junk):=by
       simp [gE,List.getElem?_append_left hjx]
      have e2:(c.args.map a.eval++cvs).getD j undef=(c.args.toList.map a.eval).getD j undef:=by
       have:j<c.args.size:=by omega
       simp [gE,Array.getElem?_append,this]
      rw [e1,e2]
      exact RelCV.imm (allImm_get himm j hjx) (l2 j hjx)
     ·have hjc:j - xs.length<caps.length:=by simp at hj;omega
      have e1:(xs++caps.map CV.c).getD j (.c .junk)=.c (caps.getD (j - xs.length) .junk):=by
       simp [gE,List.getElem?_append_right (Nat.le_of_not_lt hjx),hjc]
      have e2:(c.args.map a.eval++cvs).getD j undef=cvs.getD (j - xs.length) undef:=by
       have h3:¬ j<c.args.size:=by omega
       simp [Array.getElem?_append,h3,l1']
      rw [e1,e2]
      exact ⟨hr _ hjc,h1 _ hjc⟩
    intro next Q hnext
    refine wpIn_of (by intro c hc;rw [ho] at hc;cases hc) ?_
    have hrun:(execOp a.eval o).run P w=.ok (.enter fn (c.args.map a.eval++cvs)) w:=by
     have hb:fnc.body.isNone=false:=by cases hfb:fnc.body<;>simp [hfb] at hbody ⊢
     simp only [execOp,ho,resolve,hcal,he,Deferred.ofValue,invoke,callFunc,Sem.run_bind,Sem.run_pure,Result.andThen_ok,run_program,hfn,hname,hb,Bool.false_eq_true,if_false,Array.empty_append]
    rw [hrun]
    refine ⟨fun h=>absurd h (by simp [FB]),?_⟩
    refine callsIn_of_plain (Calls.mono (hcall E.K w _ hc.laid hc.know hargs hrel) ?_)
    rintro e w' ⟨K',v,hle,hnew,hk',hbel,rfl,hv'⟩
    obtain ⟨hE,hc'⟩:=hc.called hle hnew hk' hbel
    exact hnext v w' _ hE hc' (RelSBK.rel (E:={ E with K:=K' }) hv')
  ·cases hact
 ·rename_i fn fs args
  split at hact
  ·rename_i r' xs hx
   split at hact
   case isFalse=>cases hact
   rename_i himm
   cases hact
   have hf:RelSB E (.v (.c (.meth fn fs))) (a.eval f):=hv.2 0 f _ rfl rfl
   have hk:RelK E.K (.meth fn fs) (a.eval f):=relSB_c hf
   generalize he:a.eval f=u at hk
   cases hk with
   | meth _ _ fvs hs hr h1 =>
    have hal:args.length=(c.args.toList.map a.eval).length:=by
     have:=hv.1
     simp at this ⊢
     exact this
    obtain ⟨l1,l2⟩:=allV_rel (E:=E) hx hal (fun j v u hj hu=>by
     rw [List.getElem?_map] at hu
     simp only [Option.map_eq_some_iff] at hu
     obtain ⟨z,hz,rfl⟩:=hu
     exact hv.2 (j+1) z v (by simpa using hz) (by simpa using hj))
    obtain ⟨⟨fnc,hfn,hbody,hname⟩,hcall⟩:=hq
    have hargs:(fvs++c.args.map a.eval).size=(fs.map CV.c++xs).length:=by
     simp at l1 ⊢
     omega
    have hrel:∀ j,j<(fs.map CV.c++xs).length→RelCVK E.K ((fs.map CV.c++xs).getD j (.c .junk)) ((fvs++c.args.map a.eval).getD j undef):=by
     intro j hj
     have l1':xs.length=c.args.size:=by simpa using l1
     by_cases hjx:j<fs.length
     ·have e1:(fs.map CV.c++xs).getD j (.c .junk)=.c (fs.getD j .junk):=by
       simp [gE,List.getElem?_append_left,hjx]
      have e2:(fvs++c.args.map a.eval).getD j undef=fvs.getD j undef:=by
       have:j<fvs.size:=by omega
       simp [Array.getElem?_append,this]
      rw [e1,e2]
      exact ⟨hr _ hjx,h1 _ hjx⟩
     ·have hjc:j - fs.length<xs.length:=by simp at hj;omega
      have e1:(fs.map CV.c++xs).getD j (.c .junk)=xs.getD (j - fs.length) (.c .junk):=by
       simp [gE,List.getElem?_append_right (show (fs.map CV.c).length≤j by simp;omega)]
      have e2:(fvs++c.args.map a.eval).getD j undef=(c.args.toList.map a.eval).getD (j - fs.length) undef:=by
       have h3:¬ j<fvs.size:=by omega
       have:j - fs.length<c.args.size:=by omega
       simp [gE,Array.getElem?_append,hjx,hs,this]
      rw [e1,e2]
      exact RelCV.imm (allImm_get himm _ hjc) (l2 _ hjc)
    intro next Q hnext
    refine wpIn_of (by intro c hc;rw [ho] at hc;cases hc) ?_
    have hrun:(execOp a.eval o).run P w=.ok (.enter fn (fvs++c.args.map a.eval)) w:=by
     have hb:fnc.body.isNone=false:=by cases hfb:fnc.body<;>simp [hfb] at hbody ⊢
     simp only [execOp,ho,resolve,hcal,he,Deferred.ofValue,invoke,callFunc,Sem.run_bind,Sem.run_pure,Result.andThen_ok,run_program,hfn,hname,hb,Bool.false_eq_true,if_false,Array.append_empty]
    rw [hrun]
    refine ⟨fun h=>absurd h (by simp [FB]),?_⟩
    refine callsIn_of_plain (Calls.mono (hcall E.K w _ hc.laid hc.know hargs hrel) ?_)
    rintro e w' ⟨K',v,hle,hnew,hk',hbel,rfl,hv'⟩
    obtain ⟨hE,hc'⟩:=hc.called hle hnew hk' hbel
    exact hnext v w' _ hE hc' (RelSBK.rel (E:={ E with K:=K' }) hv')
  ·cases hact
 ·split at hact
  ·cases hact
   exact False.elim hq
  ·cases hact
 ·cases hact
end Go.Sym
