/- Part of the proof of the statement that the claim's last text names: contracts of functions and laws of the symbolic layer. -/
import Derived.Laws.Slices
import Derived.Test.YtidbmbpeblmliaaGreatDoorO04
set_option linter.unusedVariables false
set_option linter.unusedSimpArgs false
namespace Go.Sym
open Go.RowKit
variable {P:Program} {B:Base P} {E:Env} {m:List (Option MO)} {w:World}
theorem bytes_of{n k b:Nat}(h:(n+k)*(b+1)≤140737488355328):n+k≤maxLen∧(n+k)*b≤140737488355328:=by
 rw [Nat.mul_add,Nat.mul_one] at h
 refine ⟨?_,by omega⟩
 simp only [maxLen]
 omega
theorem append_run{o:Oper}{a:Act}{x y:Operand}{t e:TypeId}{z:Value}{rr sz k:Nat}{css news':List (List C)}{hd:Value}(ho:o.op=.call { callee:=.builtin .append,args:=#[x,y],argTypes:=#[t,t] })(hc:Core B E m w) 
  (ht:P.underlying t=some (.slice e)) (hz:zeroT P e=some z) (hrow:ckRow P e z=true) (hse:sz=sizeT P e) (hm:m[rr]?=some (some (.row e sz css))) (hrw:E.rw rr=some (hd,css.length)) (hx:a.eval x=hd)
  (hb:(css.length+k)*(bytesT P e+1)≤140737488355328) (hk:news'.length=k) (hl:∀ c,c∈news'→c.length=sz)
  (hnew:(a.eval y=.slice none 0 0∧k=0)∨∃ ad c,∃ news:List Value,a.eval y=.slice (some ad) k c∧news.length=k*sz∧(∀ j v,news[j]?=some v→w.cell? (ad.add j)=some v)∧(∀ v,v∈news→v.oneCell'=true)∧RelLK E.K news'.flatten news.toArray) :
  ∃ u w' E',(execOp a.eval o).run P w=.ok (.value u) w'∧E.Le E'∧E'.K=E.K∧E'.rw rr=some (u,css.length+k)∧Core B E' (m.set rr (some (.row e sz (css++news')))) w':=by
 obtain ⟨i,hi,hiz,his,hib⟩:=info_of hz
 obtain ⟨hzs,hpos,hone⟩:=ckRow_spec hrow
 subst hse
 obtain ⟨h63,hby⟩:=bytes_of hb
 obtain ⟨hszp,hlens,hd',xs,hrw',hown,hrel⟩:=hc.row hm
 rw [hrw] at hrw'
 cases hrw'
 have hbase:0≤w.heap.size:=Nat.zero_le _
 rcases hnew with ⟨hy,hk0⟩ | ⟨ad,c,news,hy,hnl,hcells,h1,hnr⟩
 ·subst hk0
  have hn0:news'=[]:=List.eq_nil_of_length_eq_zero hk
  subst hn0
  have hr:=run_append_none (w:=w) (ty:=o.type) ht hi hown
  refine ⟨hd,w,E,?_,Env.Le.refl E,rfl,by simpa using hrw,?_⟩
  ·simp only [execOp,ho,resolve,invoke,builtin,Sem.run_bind,Sem.run_pure,Result.andThen_ok,List.map_toArray,List.map_cons,List.map_nil,hx,hy,hr]
  ·have:m.set rr (some (.row e (sizeT P e) (css++[])))=m:=by
    rw [List.append_nil]
    refine List.ext_getElem? fun j=>?_
    rw [List.getElem?_set]
    by_cases hj:rr=j
    ·subst hj
     rw [if_pos rfl,if_pos (List.getElem?_eq_some_iff.1 hm).1,hm]
    ·rw [if_neg hj]
   rw [this];exact hc
 ·obtain ⟨v',w',hr,h2,h3,h4⟩:=run_append_own (P:=P) w 0 t o.type e i z (sizeT P e) (bytesT P e) ht hi hiz his hib hzs hpos hd css.length xs hown ad k c news hnl hcells h1 h63 hby hbase
  have hblk:=append_block (ty:=o.type) ht hi hiz his hib hown hnl hcells h1 h63 hby hr
  have h00:k=0→v'=hd:=by
   intro hk0
   subst hk0
   have hn0:news=[]:=List.eq_nil_of_length_eq_zero (by simpa using hnl)
   subst hn0
   rcases hown.2 with ⟨rfl,h00⟩ | ⟨g,cap,cur,rfl,hbg,hg,hnc,hcm,hcs,htake⟩
   ·exact h4.2 ⟨rfl,rfl⟩
   ·have h5:=run_append_room (P:=P) w t o.type e i ht hi g css.length cap cur hg ad 0 c [] (by simp) (by simp) (by simp) (by omega) (by rw [his];simp;rw [hcs];exact Nat.mul_le_mul_right _ hnc)
    rw [h5] at hr
    cases hr
    rfl
  obtain ⟨E',hle,hK,hrw',hc'⟩:=hc.grown hm hrw hown hrel hl hk hnr h2 h3 hblk h00
  refine ⟨v',w',E',?_,hle,hK,hrw',hc'⟩
  simp only [execOp,ho,resolve,invoke,builtin,Sem.run_bind,Sem.run_pure,Result.andThen_ok,List.map_toArray,List.map_cons,List.map_nil,hx,hy,hr]
theorem row_len{rr e sz:Nat}{css:List (List C)}{hd:Value}{len:Nat}(hc:Core B E m w)(hm:m[rr]?=some (some (.row e sz css)))(h:E.rw rr=some (hd,len)):len=css.length:=by
 obtain ⟨_,_,hd',xs,hrw',_⟩:=hc.row hm
 rw [h] at hrw'
 cases hrw'
 rfl
theorem append_sound{o:Oper}{a:Act}{c:Call}{vs:List SB}{r:SB}{ms':List (Option (Option MO))}{q:List Prop}{h:Hint}(hc:Core B E m w)(hF:h.elder=true→∀ b,¬ B.W b)(ho:o.op=.call c)(hcal:c.callee=.builtin .append) 
  (hv:Vals E a.eval c.args.toList vs) (hact:actAppend P c.argTypes.toList vs ((Op.names o.op o.dst vs).map (getM m)) h=some (r,ms',q)) (hq:allP q) :
  Done P B E (putM m (Op.names o.op o.dst vs) ms') r o a w:=by
 obtain ⟨callee,args,argTypes⟩:=c
 simp only at hcal hv hact
 subst hcal
 rw [ho] at hact ⊢
 unfold actAppend at hact
 split at hact
 case h_2=>cases hact
 rename_i t t' hts
 split at hact
 case h_2=>cases hact
 rename_i e hu
 split at hact
 case h_2=>cases hact
 rename_i z hzt
 have hck:=(ck_some hact).1
 replace hact:=(ck_some hact).2
 simp only [Bool.and_eq_true] at hck
 obtain ⟨htt,hrow⟩:=hck
 have:=Nat.eq_of_beq_eq_true htt
 subst this
 split at hact
 case h_2=>cases hact
 rename_i rr n x e' sz css rest hms
 have hck2:=(ck_some hact).1
 replace hact:=(ck_some hact).2
 simp only [Bool.and_eq_true] at hck2
 have hee:=Nat.eq_of_beq_eq_true hck2.1
 have hss:=Nat.eq_of_beq_eq_true hck2.2
 subst hee
 split at hact
 case h_2=>cases hact
 rename_i k news q' hnews
 obtain ⟨xo,yo,hargs⟩:∃ xo yo,args.toList=[xo,yo]:=by
  have:=hv.1
  match hl:args.toList,this with
  | [xo,yo],_=>exact ⟨xo,yo,rfl⟩
 obtain rfl:args=#[xo,yo]:=by apply Array.ext';simpa using hargs
 obtain rfl:argTypes=#[t,t]:=by apply Array.ext';simpa using hts
 obtain ⟨hxr,hyr⟩:=hv.two
 obtain ⟨hd,len,hrw,hnle,hhd⟩:∃ hd len,E.rw rr=some (hd,len)∧n≤len∧(n=len→a.eval xo=hd):=relSB_c hxr
 have hnames:∃ ns,Op.names (.call { callee:=.builtin .append,args:=#[xo,yo],argTypes:=#[t,t] }) o.dst [.v (.c (.row rr n)),.v (.c x)]=rr :: ns:=by
  cases x<;>exact ⟨_,rfl⟩
 obtain ⟨ns,hns⟩:=hnames
 rw [hns] at hms ⊢
 simp only [List.map_cons] at hms
 obtain ⟨hm0,hrest⟩:=List.cons.inj hms
 have hm:m[rr]?=some (some (.row e sz css)):=by simpa [getM] using hm0
 have hlen:=row_len hc hm hrw
 subst hlen
 have key:n=css.length→allP q'→news.length=k∧(∀ c,c∈news→c.length=sz)∧putM (m.set rr (some (.row e sz (css++news)))) ns rest=m.set rr (some (.row e sz (css++news)))∧(putM (m.set rr (some .gone)) ns rest=m.set rr (some .gone)) ∧
   ((a.eval yo=.slice none 0 0∧k=0)∨∃ ad c,∃ nv:List Value,a.eval yo=.slice (some ad) k c∧nv.length=k*sz∧(∀ j v,nv[j]?=some v→w.cell? (ad.add j)=some v)∧(∀ v,v∈nv→v.oneCell'=true)∧RelLK E.K news.flatten nv.toArray):=by
  intro hn hq'
  have hpos:0<sz:=(hc.row hm).1
  unfold newsOf at hnews
  split at hnews
  ·rename_i sz' k' f
   split at hnews
   ·rename_i hsz'
    have:=Nat.eq_of_beq_eq_true hsz'
    subst this
    cases hnews
    have hns0:ns=[]:=by simpa using hrest
    subst hns0
    have hk:RelK E.K (.lst sz k f) (a.eval yo):=relSB_c hyr
    rcases news_lst hc.know hpos hk with ⟨h1,h2⟩ | ⟨ad,c,nv,h1,h2,h3,h4,h5,h6⟩
    ·subst h2
     exact ⟨by simp,by simp,rfl,rfl,.inl ⟨h1,rfl⟩⟩
    ·refine ⟨by simp,fun c hc=>?_,rfl,rfl,.inr ⟨ad,c,nv,h1,h2,h3,h4,h6⟩⟩
     simp only [List.mem_map,List.mem_range] at hc
     obtain ⟨i,hi,rfl⟩:=hc
     exact h5 i hi
   ·cases hnews
  ·cases hnews
   have hns0:ns=[]:=by simpa using hrest
   subst hns0
   have hk:RelK E.K .nil (a.eval yo):=relSB_c hyr
   generalize he:a.eval yo=u at hk
   cases hk
   exact ⟨rfl,by simp,rfl,rfl,.inl ⟨rfl,rfl⟩⟩
  ·rename_i ad cc
   cases hnews
   have hns0:ns=[]:=by simpa using hrest
   subst hns0
   have hk:RelK E.K (.lit (.slice (some ad) 0 cc)) (a.eval yo):=relSB_c hyr
   generalize he:a.eval yo=u at hk
   cases hk
   exact ⟨rfl,by simp,rfl,rfl,.inr ⟨ad,cc,[],rfl,by simp,by simp,by simp,by simp,by simp⟩⟩
  ·rename_i qq k' e2 sz2 css2
   split at hnews
   ·rename_i hcks
    simp only [Bool.and_eq_true,Bool.not_eq_true'] at hcks
    obtain ⟨⟨h1,h2⟩,h3⟩:=hcks
    have e1:=Nat.eq_of_beq_eq_true h1
    have e2:=Nat.eq_of_beq_eq_true h2
    subst e1
    subst e2
    cases hnews
    have hns1:ns=[qq]:=by
     have:Op.names (.call { callee:=.builtin .append,args:=#[xo,yo],argTypes:=#[t,t] }) o.dst [.v (.c (.row rr n)),.v (.c (.row qq k))]=[rr,qq]:=rfl
     rw [this] at hns
     exact (List.cons.inj hns).2.symm
    subst hns1
    have hmq:m[qq]?=some (some (.row e sz news)):=by
     simp only [List.map_cons,List.map_nil] at hrest
     have:=(List.cons.inj hrest).1
     simpa [getM] using this
    obtain ⟨hd2,len2,hrw2,hnle2,hhd2⟩:∃ hd len,E.rw qq=some (hd,len)∧k≤len∧(k=len→a.eval yo=hd):=relSB_c hyr
    have hlen2:=row_len hc hmq hrw2
    subst hlen2
    have hkl:k=news.length:=hq'
    have hne:qq≠rr:=fun e=>by rw [e] at h3;simp at h3
    obtain ⟨_,hlens2,_⟩:=hc.row hmq
    have hput:∀ o,putM (m.set rr (some o)) [qq] [some (some (.row e sz news))]=m.set rr (some o):=by
     intro o
     show (m.set rr (some o)).set qq _=_
     refine List.ext_getElem? fun j=>?_
     rw [List.getElem?_set]
     by_cases hj:qq=j
     ·subst hj
      have:qq<(m.set rr (some o)).length:=by simpa using (List.getElem?_eq_some_iff.1 hmq).1
      rw [if_pos rfl,if_pos this,getElem?_set_ne hne,hmq]
     ·rw [if_neg hj]
    refine ⟨hkl.symm,hlens2,hput _,hput _,?_⟩
    rw [hhd2 hkl]
    subst hkl
    exact news_row (hc.row hmq) hrw2
   ·cases hnews
  ·cases hnews
 split at hact
 ·
  cases hact
  have hq1:=allP_cons.1 hq
  have hq2:=allP_cons.1 hq1.2
  have hn:n=css.length:=hq1.1
  subst hn
  obtain ⟨h1,h2,h3,_,h4⟩:=key rfl hq2.2
  obtain ⟨u,w',E',hrun,hle,hK,hrw',hc'⟩:=append_run ho hc hu hzt hrow hss hm hrw (hhd rfl) hq2.1 h1 h2 h4
  intro next Q hnx
  refine wpIn_of (by intro c hc;rw [ho] at hc;cases hc) ?_
  rw [hrun]
  refine hnx u w' E' hle ?_ ⟨⟨u,_,hrw',Nat.le_refl _,fun _=>rfl⟩,?_⟩
  ·show Core B E' (putM (m.set rr (some (.row e sz (css++news)))) ns rest) w'
   rw [h3];exact hc'
  ·have hM:=hc'.row (getElem?_set_eq hm)
   obtain ⟨_,_,hd3,xs3,hrw3,⟨_,hcase⟩,_⟩:=hM
   have hu3:u=hd3:=(Prod.mk.inj (Option.some.inj (hrw'.symm.trans hrw3))).1
   rw [hu3]
   rcases hcase with ⟨h,_⟩ | ⟨_,_,_,h,_⟩<;>rw [h]<;>rfl
 ·rename_i n' f
  cases hact
  have hq1:=allP_cons.1 hq
  have hq2:=allP_cons.1 hq1.2
  have hq3:=allP_cons.1 hq2.2
  have hn:n=css.length:=hq1.1
  subst hn
  obtain ⟨hn',hf⟩:=hq3.1
  obtain ⟨h1,h2,_,h3,h4⟩:=key rfl hq3.2
  obtain ⟨u,w',E',hrun,hle,hK,hrw',hc'⟩:=append_run ho hc hu hzt hrow hss hm hrw (hhd rfl) hq2.1 h1 h2 h4
  have hcl:(css++news).length=css.length+k:=by rw [List.length_append,h1]
  obtain ⟨E2,hle2,hlst,hc2⟩:=hc'.frozen (hF rfl) (getElem?_set_eq hm) (by rw [hcl];exact hrw')
  intro next Q hnx
  refine wpIn_of (by intro c hc;rw [ho] at hc;cases hc) ?_
  rw [hrun]
  have hl:=hlst n' f (by rw [hcl];exact hn') hf
  refine hnx u w' E2 (hle.trans hle2) ?_ ⟨hl,hl.one (by simp)⟩
  show Core B E2 (putM (m.set rr (some .gone)) ns rest) w'
  rw [h3]
  have:(m.set rr (some (.row e sz (css++news)))).set rr (some .gone)=m.set rr (some .gone):=by simp
  rw [this] at hc2
  exact hc2
 ·cases hact
theorem boxImm_sound{o:Oper}{a:Act}{t:TypeId}{x:Operand}{vs:List SB}{r:SB}{ms ms':List (Option (Option MO))}{q:List Prop}(hc:Core B E m w)(ho:o.op=.box t x) 
  (hv:Vals E a.eval [x] vs) (hact:actBoxImm vs ms=some (r,ms',q)):Done P B E m r o a w:=by
 obtain ⟨v,rfl,hx⟩:=vals1 hv
 unfold actBoxImm at hact
 split at hact
 ·rename_i y heq
  cases heq
  obtain ⟨himm,hact⟩:=ck_some hact
  cases hact
  have hrel:=cvCells_relK himm hx
  obtain ⟨E',hle,hK,hc'⟩:=hc.allocK (.cells (a.eval x).cells t)
  intro next Q h
  refine wpIn_of (by intro c hc;rw [ho] at hc;cases hc) ?_
  have hrun:(execOp a.eval o).run P w=.ok (.value (.pointer (some ⟨w.heap.size,0,none⟩))) (w.alloc (.cells (a.eval x).cells t)):=by
   simp only [execOp,ho,Instr.box,Sem.run_bind,Result.andThen_ok,newVar,newRow,run_newObj,Sem.run_pure,World.alloc_eq]
  rw [hrun]
  exact h _ _ E' hle hc' ⟨RelK.kptr _ 0 _ _ _ _ hK hrel.1 (fun j hj=>(hrel.2 j hj).1.mono hle.K) (fun j hj=>(hrel.2 j hj).2),rfl⟩
 ·cases hact
theorem allC_rel:∀ {vs:List SB} {cs:List C} {us:List Value},allC vs=some cs→vs.length=us.length→(∀ (j:Nat) (v:SB) (u:Value),vs[j]?=some v→us[j]?=some u→RelSB E v u) →
  us.length=cs.length∧∀ j,j<cs.length→RelK E.K (cs.getD j .junk) (us.getD j undef)∧(us.getD j undef).oneCell'=true:=by
 intro vs
 induction vs with
 | nil =>
  intro cs us h hl _
  simp only [allC] at h
  cases h
  exact ⟨by simpa using hl.symm,fun j hj=>by simp at hj⟩
 | cons v vs ih =>
  intro cs us h hl hr
  cases us with
  | nil=>simp at hl
  | cons u us =>
   cases v with
   | tup ys=>simp [allC] at h
   | v x =>
    cases x with
    | agg cs'=>simp [allC] at h
    | pagg cs'=>simp [allC] at h
    | c x =>
     simp only [allC] at h
     split at h
     ·rename_i himm
      simp only [Option.map_eq_some_iff] at h
      obtain ⟨cs',hx,rfl⟩:=h
      obtain ⟨h1,h2⟩:=ih hx (by simpa using hl) (fun j v u hj hu=>hr (j+1) v u (by simpa using hj) (by simpa using hu))
      refine ⟨by simp [h1],fun j hj=>?_⟩
      cases j with
      | zero =>
       have:=hr 0 _ _ rfl rfl
       exact ⟨Rel.imm himm this.1,this.2⟩
      | succ j =>
       have:=h2 j (by simpa using hj)
       simpa [gE] using this
     ·cases h
theorem closure_sound{o:Oper}{a:Act}{f:Nat}{first captured:Array Operand}{vs:List SB}{cs:List C}(hc:Core B E m w)(ho:o.op=.makeFunc (.func f) first captured)(h1:first.size=0) 
  (hv:Vals E a.eval (first++captured).toList vs) (hcs:allC vs=some cs):Done P B E m (.v (.c (.clo f cs))) o a w:=by
 obtain rfl:first=#[]:=Array.eq_empty_of_size_eq_zero h1
 have hv':Vals E a.eval captured.toList vs:=by simpa using hv
 obtain ⟨h2,h3⟩:=allC_rel (E:=E) (us:=captured.toList.map a.eval) hcs (by simpa using hv'.1) (fun j v u hj hu=>by
  rw [List.getElem?_map] at hu
  simp only [Option.map_eq_some_iff] at hu
  obtain ⟨z,hz,rfl⟩:=hu
  exact hv'.2 j z v hz hj)
 have h4:∀ j,j<cs.length→(captured.toList.map a.eval).getD j undef=(captured.map a.eval).getD j undef:=fun j hj=>by
  have:j<captured.size:=by simp at h2;omega
  simp [gE,this]
 refine done_value (u:=.func (.func f) #[] (captured.map a.eval)) hc ?_ ⟨RelK.clo f cs _ (by simpa using h2) (fun j hj=>by rw [← h4 j hj];exact (h3 j hj).1) (fun j hj=>by rw [← h4 j hj];exact (h3 j hj).2),rfl⟩
 simp [execOp,ho,Instr.makeFunc]
theorem mclosure_sound{o:Oper}{a:Act}{f:Nat}{first captured:Array Operand}{vs:List SB}{cs:List C}(hc:Core B E m w)(ho:o.op=.makeFunc (.func f) first captured)(h1:captured.size=0) 
  (hv:Vals E a.eval (first++captured).toList vs) (hcs:allC vs=some cs):Done P B E m (.v (.c (.meth f cs))) o a w:=by
 obtain rfl:captured=#[]:=Array.eq_empty_of_size_eq_zero h1
 have hv':Vals E a.eval first.toList vs:=by simpa using hv
 obtain ⟨h2,h3⟩:=allC_rel (E:=E) (us:=first.toList.map a.eval) hcs (by simpa using hv'.1) (fun j v u hj hu=>by
  rw [List.getElem?_map] at hu
  simp only [Option.map_eq_some_iff] at hu
  obtain ⟨z,hz,rfl⟩:=hu
  exact hv'.2 j z v hz hj)
 have h4:∀ j,j<cs.length→(first.toList.map a.eval).getD j undef=(first.map a.eval).getD j undef:=fun j hj=>by
  have:j<first.size:=by simp at h2;omega
  simp [gE,this]
 refine done_value (u:=.func (.func f) (first.map a.eval) #[]) hc ?_ ⟨RelK.meth f cs _ (by simpa using h2) (fun j hj=>by rw [← h4 j hj];exact (h3 j hj).1) (fun j hj=>by rw [← h4 j hj];exact (h3 j hj).2),rfl⟩
 simp [execOp,ho,Instr.makeFunc]
theorem relK_part{K:Know}{sz n l h cap:Nat}{f:Nat→List C}{ad:Option Addr}(hr:RelK K (.lst sz n f) (.slice ad n cap))(h1:l≤h)(h2:h≤n):RelK K (.lst sz (h - l) fun i=>f (l+i)) (.slice (if cap=l then ad else ad.map (·.add (l*sz))) (h - l) (cap - l)):=by
 generalize hu:Value.slice ad n cap=u at hr
 cases hr with
 | lst0 =>
  cases hu
  have e1:h=0:=by omega
  have e2:l=0:=by omega
  subst e1 e2
  exact .lst0 _ _
 | lst1 _ _ a =>
  cases hu
  have e1:h=0:=by omega
  have e2:l=0:=by omega
  subst e1 e2
  exact .lst1 _ _ _
 | lst _ _ _ b off cap' arr T fz g hK hg hl hr ho hcap hmx =>
  cases hu
  by_cases hc:cap=l
  ·rw [if_pos hc,show h - l=0 by omega,show cap - l=0 by omega]
   exact .lst1 _ _ _
  ·rw [if_neg hc]
   simp only [Option.map_some,Addr.add_lit]
   refine .lst sz (h - l) _ b (off+l*sz) (cap - l) arr T fz (fun i j=>g (l+i) j) hK (fun i j hi hj=>?_) (fun i hi=>hl _ (by omega)) (fun i j hi hj=>hr _ _ (by omega) hj) (fun i j hi hj=>ho _ _ (by omega) hj) (by omega) (by omega)
   rw [show off+l*sz+i*sz+j=off+(l+i)*sz+j by rw [Nat.add_mul];omega]
   exact hg _ _ (by omega) hj
theorem lst_slice{K:Know}{sz n:Nat}{f:Nat→List C}{u:Value}(h:RelK K (.lst sz n f) u):∃ ad cap,u=.slice ad n cap∧n≤cap:=by
 cases h with
 | lst0=>exact ⟨_,_,rfl,Nat.le_refl _⟩
 | lst1=>exact ⟨_,_,rfl,Nat.le_refl _⟩
 | lst _ _ _ b off cap arr T fz g hK hg hl hr ho hcap hmx=>exact ⟨_,_,rfl,hcap⟩
theorem slice_sound{o:Oper}{a:Act}{t:TypeId}{x:Operand}{lo hi mx:Option Operand}{vs:List SB}{r:SB}{ms ms':List (Option (Option MO))}{q:List Prop}(hc:Core B E m w)(ho:o.op=.slice t x lo hi mx) 
  (hv:Vals E a.eval (x :: (lo.toList++hi.toList++mx.toList)) vs) (hact:actSlice P t lo hi mx vs ms=some (r,ms',q)) (hq:allP q):Done P B E m r o a w:=by
 unfold actSlice at hact
 split at hact
 case h_2=>cases hact
 rename_i e sz n f rest hu
 obtain ⟨hck,hact⟩:=ck_some hact
 obtain ⟨hsz,hpos⟩:=ckElem_spec hck
 have hx:RelK E.K (.lst sz n f) (a.eval x):=relSB_c (hv.2 0 x _ rfl rfl)
 obtain ⟨ad,cap,hxe,hcap⟩:=lst_slice hx
 rw [hxe] at hx
 have fin:∀ (l h:Nat) (lv hv':Option Value),l≤h→h≤n→(Instr.sliceBounds true n cap lv hv' none).run P w=.ok (l,h,cap) w→lo.map a.eval=lv→hi.map a.eval=hv' →
   r=.v (.c (.lst sz (h - l) fun i=>f (l+i)))→Done P B E m r o a w:=by
  intro l h lv hv' h1 h2 hb e1 e2 hr
  subst hr
  refine done_value (u:=.slice (if cap=l then ad else ad.map (·.add (l*sz))) (h - l) (cap - l)) hc ?_ ⟨relK_part hx h1 h2,rfl⟩
  have hsl:(Instr.sliceAt t (.slice ad n cap) lv hv' none).run P w=.ok (.slice (if cap=l then ad else ad.map (·.add (l*sz))) (h - l) (cap - l)) w:=by
   simp only [Instr.sliceAt,Instr.slice,Sem.run_bind,run_underlying hu,Result.andThen_ok,hb,run_sizeOf hpos,Sem.run_pure,← hsz]
  simp only [execOp,ho,hxe,e1,e2,Option.map_none,Sem.run_bind,hsl,Result.andThen_ok,Sem.run_pure]
 have vint:∀ (j:Nat) (y:Operand) (k:IntKind) (i:Int),(x :: (lo.toList++hi.toList++(none:Option Operand).toList))[j]?=some y→(SB.v (.c (.lst sz n f)) :: rest)[j]?=some (.v (.c (.int k i)))→a.eval y=.int k i:=fun j y k i h1 h2=>relSB_int (hv.2 j y _ h1 h2)
 split at hact
 ·cases hact
  refine fin 0 n none none (Nat.zero_le _) (Nat.le_refl _) (by simp [Instr.sliceBounds]) rfl rfl ?_
  simp
 ·rename_i k i _
  cases hact
  have h1:=vint 1 _ k i rfl rfl
  obtain ⟨q1,q2⟩:=hq
  refine fin 0 i.toNat none (some (.int k i)) (Nat.zero_le _) (by omega) ?_ rfl (by simp [h1]) ?_
  ·simp [Instr.sliceBounds,run_sliceBound w k i cap _ q1 (by omega)]
  ·simp
 ·rename_i k i _
  cases hact
  have h1:=vint 1 _ k i rfl rfl
  obtain ⟨q1,q2⟩:=hq
  refine fin i.toNat n (some (.int k i)) none (by omega) (Nat.le_refl _) ?_ (by simp [h1]) rfl rfl
  simp [Instr.sliceBounds,run_sliceBound w k i n _ q1 q2]
 ·rename_i k i k' i' _
  cases hact
  have h1:=vint 1 _ k i rfl rfl
  have h2:=vint 2 _ k' i' rfl rfl
  obtain ⟨q1,q2,q3⟩:=hq
  refine fin i.toNat i'.toNat (some (.int k i)) (some (.int k' i')) (by omega) (by omega) ?_ (by simp [h1]) (by simp [h2]) rfl
  simp [Instr.sliceBounds,run_sliceBound w k' i' cap _ (by omega) (by omega),run_sliceBound w k i i'.toNat _ q1 (by omega)]
 ·cases hact
theorem sliceStr_sound{o:Oper}{a:Act}{t:TypeId}{x:Operand}{lo hi mx:Option Operand}{st:ByteArray}{rest:List SB}{r:SB}{ms ms':List (Option (Option MO))}{q:List Prop}(hc:Core B E m w)(ho:o.op=.slice t x lo hi mx) 
  (hv:Vals E a.eval (x :: (lo.toList++hi.toList++mx.toList)) (.v (.c (.str st)) :: rest)) (hact:actSliceStr P t lo hi mx st rest ms=some (r,ms',q)) (hq:allP q):Done P B E m r o a w:=by
 unfold actSliceStr at hact
 split at hact
 case h_2=>cases hact
 rename_i hu
 have hxe:a.eval x=.string st:=relSB_str (hv.2 0 x _ rfl rfl)
 have hstr:st.size≤maxLen:=RelK.str_le (relSB_c (hv.2 0 x _ rfl rfl))
 have fin:∀ (l h:Nat) (lv hv':Option Value),(Instr.sliceBounds false st.size st.size lv hv' none).run P w=.ok (l,h,st.size) w→lo.map a.eval=lv→hi.map a.eval=hv' →
   r=.v (.c (.str (st.extract l h)))→Done P B E m r o a w:=by
  intro l h lv hv' hb e1 e2 hr
  subst hr
  refine done_value (u:=.string (st.extract l h)) hc ?_ ⟨RelK.str _ (Nat.le_trans (by rw [ByteArray.size_extract];omega) hstr),rfl⟩
  have hsl:(Instr.sliceAt t (.string st) lv hv' none).run P w=.ok (.string (st.extract l h)) w:=by
   simp [Instr.sliceAt,Instr.slice,Sem.run_bind,run_underlying hu,hb]
  simp only [execOp,ho,hxe,e1,e2,Option.map_none,Sem.run_bind,hsl,Result.andThen_ok,Sem.run_pure]
 have vint:∀ (j:Nat) (y:Operand) (k:IntKind) (i:Int),(x :: (lo.toList++hi.toList++(none:Option Operand).toList))[j]?=some y→(SB.v (.c (.str st)) :: rest)[j]?=some (.v (.c (.int k i)))→a.eval y=.int k i:=fun j y k i h1 h2=>relSB_int (hv.2 j y _ h1 h2)
 split at hact
 ·cases hact
  refine fin 0 st.size none none (by simp [Instr.sliceBounds]) rfl rfl ?_
  rw [ByteArray.extract_zero_size]
 ·rename_i k i
  cases hact
  have h1:=vint 1 _ k i rfl rfl
  obtain ⟨q1,q2⟩:=hq
  refine fin 0 i.toNat none (some (.int k i)) ?_ rfl (by simp [h1]) rfl
  simp [Instr.sliceBounds,run_sliceBound w k i st.size _ q1 (by omega)]
 ·rename_i k i
  cases hact
  have h1:=vint 1 _ k i rfl rfl
  obtain ⟨q1,q2⟩:=hq
  refine fin i.toNat st.size (some (.int k i)) none ?_ (by simp [h1]) rfl rfl
  simp [Instr.sliceBounds,run_sliceBound w k i st.size _ q1 q2]
 ·rename_i k i k' i'
  cases hact
  have h1:=vint 1 _ k i rfl rfl
  have h2:=vint 2 _ k' i' rfl rfl
  obtain ⟨q1,q2,q3⟩:=hq
  refine fin i.toNat i'.toNat (some (.int k i)) (some (.int k' i')) ?_ (by simp [h1]) (by simp [h2]) rfl
  simp [Instr.sliceBounds,run_sliceBound w k' i' st.size _ (by omega) (by omega),run_sliceBound w k i i'.toNat _ q1 (by omega)]
 ·cases hact
theorem sliceArr_sound{o:Oper}{a:Act}{t:TypeId}{x:Operand}{lo hi mx:Option Operand}{vs:List SB}{r:SB}{ms ms':List (Option (Option MO))}{q:List Prop}(hc:Core B E m w)(ho:o.op=.slice t x lo hi mx) 
  (hv:Vals E a.eval (x :: (lo.toList++hi.toList++mx.toList)) vs) (hact:actSliceArr P t lo hi mx vs ms=some (r,ms',q)) (hq:allP q):Done P B E m r o a w:=by
 unfold actSliceArr at hact
 split at hact
 case h_4=>exact slice_sound hc ho hv hact hq
 case h_2=>exact sliceStr_sound hc ho hv hact hq
 case h_3 =>
  rename_i sz m' f i off
  split at hact
  case h_2=>cases hact
  rename_i n e hu
  obtain ⟨hck,hact⟩:=ck_some hact
  cases hact
  simp only [Bool.and_eq_true,Nat.blt_eq,Nat.ble_eq] at hck
  obtain ⟨⟨⟨hpos,hn⟩,hle⟩,hnm⟩:=hck
  replace hnm:n≤maxLen:=hnm
  have hx:RelK E.K (.kel sz m' f i off) (a.eval x):=relSB_c (hv.2 0 x _ rfl rfl)
  generalize hxe:a.eval x=u at hx
  cases hx with
  | kel _ _ _ _ _ b base arr T fz g hK hg hl hr hone hi =>
   have hin:∀ k j,k<n→j<sizeT P e→off+k*sizeT P e+j<sz:=fun k j hi hj=>by
    have:(k+1)*sizeT P e≤n*sizeT P e:=Nat.mul_le_mul_right _ hi
    rw [Nat.add_mul] at this
    omega
   have hli:=hl i hi
   refine done_value (u:=.slice (some ⟨b,base+i*sz+off,none⟩) n n) hc ?_ ⟨.lst _ n _ b (base+i*sz+off) n arr T fz (fun k j=>g i (off+k*sizeT P e+j)) hK (fun k j hk hj=>?_) (fun k hk=>?_) (fun k j hk hj=>?_) (fun k j hk hj=>?_) (Nat.le_refl _) hnm,rfl⟩
   ·have hsl:(Instr.sliceAt t (.pointer (some ⟨b,base+i*sz+off,none⟩)) none none none).run P w=.ok (.slice (some ⟨b,base+i*sz+off,none⟩) n n) w:=by
     simp [Instr.sliceAt,run_underlying hu,Instr.sureAddr,Instr.sliceBounds,run_sizeOf hpos,Addr.add_lit]
    simp only [execOp,ho,hxe,Option.map_none,Sem.run_bind,hsl,Result.andThen_ok,Sem.run_pure]
   ·have:=hg i (off+k*sizeT P e+j) hi (hin k j hk hj)
    rw [← this];congr 1;omega
   ·have h1:=hin k (sizeT P e - 1) hk (by omega)
    exact length_sub _ _ _ (by omega)
   ·rw [getD_sub _ _ _ _ hj]
    exact hr i _ hi (hin k j hk hj)
   ·exact hone i _ hi (hin k j hk hj)
 rename_i cs off
 split at hact
 case h_2=>cases hact
 rename_i n e hu
 obtain ⟨hck,hact⟩:=ck_some hact
 cases hact
 simp only [Bool.and_eq_true,Nat.blt_eq,Nat.ble_eq] at hck
 obtain ⟨⟨⟨hpos,hn⟩,hle⟩,hnm⟩:=hck
 replace hnm:n≤maxLen:=hnm
 have hx:RelK E.K (.kptr cs off) (a.eval x):=relSB_c (hv.2 0 x _ rfl rfl)
 generalize hxe:a.eval x=u at hx
 cases hx with
 | kptr _ _ b arr T fz hK hs hr hone =>
  have hin:∀ i j,i<n→j<sizeT P e→off+i*sizeT P e+j<cs.length:=fun i j hi hj=>by
   have:(i+1)*sizeT P e≤n*sizeT P e:=Nat.mul_le_mul_right _ hi
   rw [Nat.add_mul] at this
   omega
  refine done_value (u:=.slice (some ⟨b,off,none⟩) n n) hc ?_ ⟨.lst _ n _ b off n arr T fz (fun i j=>arr.getD (off+i*sizeT P e+j) undef) hK (fun i j hi hj=>?_) (fun i hi=>?_) (fun i j hi hj=>?_) (fun i j hi hj=>?_) (Nat.le_refl _) hnm,rfl⟩
  ·have hsl:(Instr.sliceAt t (.pointer (some ⟨b,off,none⟩)) none none none).run P w=.ok (.slice (some ⟨b,off,none⟩) n n) w:=by
    simp [Instr.sliceAt,run_underlying hu,Instr.sureAddr,Instr.sliceBounds,run_sizeOf hpos,Addr.add_lit]
   simp only [execOp,ho,hxe,Option.map_none,Sem.run_bind,hsl,Result.andThen_ok,Sem.run_pure]
  ·have:=hin i j hi hj
   have h2:off+i*sizeT P e+j<arr.size:=by omega
   simp [h2]
  ·have h1:=hin i (sizeT P e - 1) hi (by omega)
   exact length_sub _ _ _ (by omega)
  ·rw [getD_sub _ _ _ _ hj]
   exact hr _ (hin i j hi hj)
  ·exact hone _ (hin i j hi hj)
theorem allPtr_rel:∀ {vs:List SB} {ps:List (Nat×Nat)} {us:List Value},allPtr vs=some ps→vs.length=us.length→(∀ (j:Nat) (v:SB) (u:Value),vs[j]?=some v→us[j]?=some u→RelSB E v u) →
  us.length=ps.length∧∀ j,j<ps.length→RelP E (ps.getD j (0,0)).1 (ps.getD j (0,0)).2 (us.getD j undef):=by
 intro vs
 induction vs with
 | nil =>
  intro ps us h hl _
  simp only [allPtr] at h
  cases h
  exact ⟨by simpa using hl.symm,fun j hj=>by simp at hj⟩
 | cons v vs ih =>
  intro ps us h hl hr
  cases us with
  | nil=>simp at hl
  | cons u us =>
   unfold allPtr at h
   split at h
   ·rename_i h';cases h'
   ·rename_i n off xs heq
    cases heq
    simp only [Option.map_eq_some_iff] at h
    obtain ⟨ps',hx,rfl⟩:=h
    obtain ⟨h1,h2⟩:=ih hx (by simpa using hl) (fun j v u hj hu=>hr (j+1) v u (by simpa using hj) (by simpa using hu))
    refine ⟨by simp [h1],fun j hj=>?_⟩
    cases j with
    | zero=>exact (hr 0 _ _ rfl rfl).1
    | succ j =>
     have:=h2 j (by simpa using hj)
     simpa [gE] using this
   ·cases h
theorem oclosure_sound{o:Oper}{a:Act}{f:Nat}{first captured:Array Operand}{vs:List SB}{ps:List (Nat×Nat)}(hc:Core B E m w)(ho:o.op=.makeFunc (.func f) first captured)(h1:first.size=0) 
  (hv:Vals E a.eval (first++captured).toList vs) (hcs:allPtr vs=some ps):Done P B E m (.v (.c (.oclo false f ps))) o a w:=by
 obtain rfl:first=#[]:=Array.eq_empty_of_size_eq_zero h1
 have hv':Vals E a.eval captured.toList vs:=by simpa using hv
 obtain ⟨h2,h3⟩:=allPtr_rel (E:=E) (us:=captured.toList.map a.eval) hcs (by simpa using hv'.1) (fun j v u hj hu=>by
  rw [List.getElem?_map] at hu
  simp only [Option.map_eq_some_iff] at hu
  obtain ⟨z,hz,rfl⟩:=hu
  exact hv'.2 j z v hz hj)
 have h4:∀ j,j<ps.length→(captured.toList.map a.eval).getD j undef=(captured.map a.eval).getD j undef:=fun j hj=>by
  have:j<captured.size:=by simp at h2;omega
  simp [gE,this]
 refine done_value (u:=.func (.func f) #[] (captured.map a.eval)) hc ?_ ⟨⟨captured.map a.eval,rfl,by simpa using h2,fun j hj=>by rw [← h4 j hj];exact h3 j hj⟩,rfl⟩
 simp [execOp,ho,Instr.makeFunc]
theorem bclosure_sound{o:Oper}{a:Act}{f:Nat}{first captured:Array Operand}{vs:List SB}{ps:List (Nat×Nat)}(hc:Core B E m w)(ho:o.op=.makeFunc (.func f) first captured)(h1:captured.size=0) 
  (hv:Vals E a.eval (first++captured).toList vs) (hcs:allPtr vs=some ps):Done P B E m (.v (.c (.oclo true f ps))) o a w:=by
 obtain rfl:captured=#[]:=Array.eq_empty_of_size_eq_zero h1
 have hv':Vals E a.eval first.toList vs:=by simpa using hv
 obtain ⟨h2,h3⟩:=allPtr_rel (E:=E) (us:=first.toList.map a.eval) hcs (by simpa using hv'.1) (fun j v u hj hu=>by
  rw [List.getElem?_map] at hu
  simp only [Option.map_eq_some_iff] at hu
  obtain ⟨z,hz,rfl⟩:=hu
  exact hv'.2 j z v hz hj)
 have h4:∀ j,j<ps.length→(first.toList.map a.eval).getD j undef=(first.map a.eval).getD j undef:=fun j hj=>by
  have:j<first.size:=by simp at h2;omega
  simp [gE,this]
 refine done_value (u:=.func (.func f) (first.map a.eval) #[]) hc ?_ ⟨⟨first.map a.eval,rfl,by simpa using h2,fun j hj=>by rw [← h4 j hj];exact h3 j hj⟩,rfl⟩
 simp [execOp,ho,Instr.makeFunc]
end Go.Sym
