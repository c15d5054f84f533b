/- Part of the proof of the statement that the claim's last text names: contracts of functions and laws of the symbolic layer. -/
import Derived.Test.YtidbmbpeblmliaaGreatDoorO01
set_option linter.unusedVariables false
set_option linter.unusedSimpArgs false
namespace Go.Sym
open Go.RowKit
variable {P:Program} {B:Base P} {E:Env} {m:List (Option MO)} {w:World}
theorem tyOk_pos{t:TypeId}(h:tyOk P t=true):0<sizeT P t:=by
 simp only [tyOk,Bool.and_eq_true,Nat.blt_eq] at h
 exact h.1.1
theorem tyOk_und{t:TypeId}(h:tyOk P t=true):∃ d,P.underlying t=some d:=by
 simp only [tyOk,Bool.and_eq_true] at h
 exact Option.isSome_iff_exists.1 h.1.2
theorem tyOk_one{t:TypeId}(h:tyOk P t=true)(ha:isAggT P t=false):sizeT P t=1:=by
 simp only [tyOk,Bool.and_eq_true,ha,Bool.false_or] at h
 exact Nat.eq_of_beq_eq_true h.2
theorem sizeT_info{t:TypeId}(h:0<sizeT P t):∃ i,P.info? t=some i∧i.size=sizeT P t:=by
 unfold sizeT at *
 cases hi:P.info? t with
 | none=>simp [hi] at h
 | some i=>exact ⟨i,rfl,by simp⟩
theorem run_sizeOf{t:TypeId}(h:0<sizeT P t):(sizeOf t).run P w=.ok (sizeT P t) w:=by
 obtain ⟨i,hi,hs⟩:=sizeT_info h
 simp [sizeOf,typeInfo,hi,hs]
theorem run_isAgg{t:TypeId}(h:tyOk P t=true):(isAgg t).run P w=.ok (isAggT P t) w:=by
 obtain ⟨d,hd⟩:=tyOk_und h
 unfold isAgg isAggT
 rw [Sem.run_bind,run_underlying hd w]
 cases d<;>simp [hd]
theorem run_loadVar_at{t:TypeId}{b off:Nat}{arr:Array Value}{T:TypeId}{fz:Nat×Nat}(ht:tyOk P t=true)(hb:w.heap[b]?=some (.cells arr T fz))(hoff:off+sizeT P t≤arr.size):
  (loadVar t ⟨b,off,none⟩).run P w=.ok (if isAggT P t then .agg (arr.extract off (off+sizeT P t)) else arr.getD off undef) w:=by
 have hcell:∀ j,j<arr.size→w.cell? ⟨b,j,none⟩=some (arr.getD j undef):=by
  intro j hj
  rw [cell_of_row w b j arr T fz hb]
  simp [hj]
 unfold loadVar
 rw [Sem.run_bind,run_isAgg ht]
 cases hag:isAggT P t with
 | true =>
  simp only [Result.andThen_ok,if_true,Sem.run_bind,run_sizeOf (tyOk_pos ht)]
  rw [run_loadCells w ⟨b,off,none⟩ (sizeT P t) (fun j=>arr.getD (off+j) undef) (fun j hj=>by rw [Addr.add_lit];exact hcell _ (by omega))]
  simp only [Result.andThen_ok,Sem.run_pure]
  congr 2
  apply Array.ext
  ·simp;omega
  ·intro i h1 h2
   simp at h1 h2
   have:off+i<arr.size:=by omega
   simp [this]
 | false =>
  have h1:=tyOk_one ht hag
  simp [hcell off (by omega)]
theorem getD_sub(cs:List C)(off n j:Nat)(hj:j<n):(sub cs off n).getD j .junk=cs.getD (off+j) .junk:=by
 unfold sub
 simp only [gE,List.getElem?_take,List.getElem?_drop]
 rw [if_pos hj]
theorem length_sub(cs:List C)(off n:Nat)(h:off+n≤cs.length):(sub cs off n).length=n:=by
 unfold sub
 simp;omega
theorem getD_extract(arr:Array Value)(off n j:Nat)(hj:j<n)(h:off+n≤arr.size):(arr.extract off (off+n)).getD j undef=arr.getD (off+j) undef:=by
 have h1:off+j<arr.size:=by omega
 have h2:j<(arr.extract off (off+n)).size:=by simp;omega
 simp only [Array.getD_eq_getD_getElem?,Array.getElem?_eq_getElem h1,Array.getElem?_eq_getElem h2,Option.getD_some,Array.getElem_extract]
theorem part_k{t:TypeId}{arr:Array Value}{cs:List C}{off base:Nat}(ht:tyOk P t=true)(hoff:off+sizeT P t≤cs.length)(hlen:base+cs.length≤arr.size) 
  (hr:∀ j,j<cs.length→RelK E.K (cs.getD j .junk) (arr.getD (base+j) undef)∧(arr.getD (base+j) undef).oneCell'=true) :
  RelCV E (Go.Sym.part P false t cs off) (if isAggT P t then .agg (arr.extract (base+off) (base+off+sizeT P t)) else arr.getD (base+off) undef):=by
 unfold Go.Sym.part
 cases hag:isAggT P t with
 | true =>
  simp only [if_true,Bool.false_eq_true,if_false]
  refine ⟨_,rfl,?_,?_⟩
  ·rw [length_sub _ _ _ hoff];simp;omega
  ·intro j hj
   rw [length_sub _ _ _ hoff] at hj
   rw [getD_sub _ _ _ _ hj,getD_extract _ _ _ _ hj (by omega)]
   have:=hr (off+j) (by omega)
   rwa [← Nat.add_assoc] at this
 | false =>
  have h1:=tyOk_one ht hag
  have:=hr off (by omega)
  simp only [Bool.false_eq_true,if_false]
  exact ⟨Rel.of_relK this.1,this.2⟩
theorem part_p{t:TypeId}{arr:Array Value}{cs:List C}{off base:Nat}(ht:tyOk P t=true)(hoff:off+sizeT P t≤cs.length)(hlen:base+cs.length≤arr.size) 
  (hr:∀ j,j<cs.length→Rel E (cs.getD j .junk) (arr.getD (base+j) undef)∧(arr.getD (base+j) undef).oneCell'=true) :
  RelCV E (Go.Sym.part P true t cs off) (if isAggT P t then .agg (arr.extract (base+off) (base+off+sizeT P t)) else arr.getD (base+off) undef):=by
 unfold Go.Sym.part
 cases hag:isAggT P t with
 | true =>
  simp only [if_true]
  refine ⟨_,rfl,?_,?_⟩
  ·rw [length_sub _ _ _ hoff];simp;omega
  ·intro j hj
   rw [length_sub _ _ _ hoff] at hj
   rw [getD_sub _ _ _ _ hj,getD_extract _ _ _ _ hj (by omega)]
   have:=hr (off+j) (by omega)
   rwa [← Nat.add_assoc] at this
 | false =>
  have h1:=tyOk_one ht hag
  have:=hr off (by omega)
  simp only [Bool.false_eq_true,if_false]
  exact this
def Done(P:Program)(B:Base P)(E:Env)(m':List (Option MO))(v:SB)(o:Oper)(a:Act)(w:World):Prop:=
 ∀ next Q,(∀ u w' E',E.Le E'→Core B E' m' w'→RelSB E' v u→next (a.put o.dst u) w')→o.wpIn (FB B.r) 0 P a w next Q
theorem wpIn_of{r:Option Nat}{o:Oper}{a:Act}{next:Act→World→Prop}{Q:Exit→Act→World→Prop}(hnd:∀ c,o.op≠.defer c)(h:o.uponIn (FB r) 0 P a next Q ((execOp a.eval o).run P w)):o.wpIn (FB r) 0 P a w next Q:=by
 refine ⟨fun _ _=>trivial,?_⟩
 rw [Oper.semAt_eq _ _ _ hnd]
 exact h
theorem not_defer_of{o:Oper}{a:Act}{u:Value}(hrun:(execOp a.eval o).run P w=.ok (.value u) w):∀ c,o.op≠.defer c:=by
 intro c hc
 unfold execOp at hrun
 simp only [hc] at hrun
 rw [Sem.run_bind] at hrun
 cases hr:(resolve a.eval c o.type).run P w<;>rw [hr] at hrun<;>simp [Result.andThen] at hrun
theorem done_value{v:SB}{o:Oper}{a:Act}{u:Value}(hc:Core B E m w)(hrun:(execOp a.eval o).run P w=.ok (.value u) w)(hu:RelSB E v u):Done P B E m v o a w:=by
 intro next Q h
 refine wpIn_of (not_defer_of hrun) ?_
 rw [hrun]
 exact h u w E (Env.Le.refl E) hc hu
def Vals(E:Env)(ρ:Operand→Value)(xs:List Operand)(vs:List SB):Prop:=vs.length=xs.length∧∀ (j:Nat) (x:Operand) (v:SB),xs[j]?=some x→vs[j]?=some v→RelSB E v (ρ x)
theorem Vals.one{ρ:Operand→Value}{x:Operand}{v:SB}(h:Vals E ρ [x] [v]):RelSB E v (ρ x):=h.2 0 x v rfl rfl
theorem Vals.two{ρ:Operand→Value}{x y:Operand}{v u:SB}(h:Vals E ρ [x,y] [v,u]):RelSB E v (ρ x)∧RelSB E u (ρ y):=⟨h.2 0 x v rfl rfl,h.2 1 y u rfl rfl⟩
theorem relSB_int{k:IntKind}{n:Int}{u:Value}(h:RelSB E (.v (.c (.int k n))) u):u=.int k n:=by
 obtain ⟨hr,_⟩:=h
 cases hr
 rfl
theorem relSB_bool{b:Bool}{u:Value}(h:RelSB E (.v (.c (.bool b))) u):u=.bool b:=by
 obtain ⟨hr,_⟩:=h
 cases hr
 rfl
theorem relSB_str{s:ByteArray}{u:Value}(h:RelSB E (.v (.c (.str s))) u):u=.string s:=by
 obtain ⟨hr,_⟩:=h
 cases hr
 rfl
theorem rel_int{k:IntKind}{n:Int}:RelSB E (.v (.c (.int k n))) (.int k n):=⟨RelK.int k n,rfl⟩
theorem rel_bool{b:Bool}:RelSB E (.v (.c (.bool b))) (.bool b):=⟨RelK.bool b,rfl⟩
theorem run_load_at{t:TypeId}{o:Oper}{a:Act}{x:Operand}{b off:Nat}{arr:Array Value}{T:TypeId}{fz:Nat×Nat}(ho:o.op=.load t x)(hx:a.eval x=.pointer (some ⟨b,off,none⟩)) 
  (ht:tyOk P t=true) (hb:w.heap[b]?=some (.cells arr T fz)) (hoff:off+sizeT P t≤arr.size) :
  (execOp a.eval o).run P w=.ok (.value (if isAggT P t then .agg (arr.extract off (off+sizeT P t)) else arr.getD off undef)) w:=by
 simp only [execOp,ho,hx,Instr.loadAt,Instr.sureAddr,Sem.run_bind,Sem.run_pure,Result.andThen_ok,run_loadVar_at ht hb hoff]
theorem view_kel{K:Know}{sz n i o:Nat}{f:Nat→List C}{u:Value}(hk:Knows K w)(h:RelK K (.kel sz n f i o) u):
  ∃ b base arr T fz,u=.pointer (some ⟨b,base+o,none⟩)∧w.heap[b]?=some (.cells arr T fz)∧(f i).length=sz∧(0<sz→base+(f i).length≤arr.size) ∧
   ∀ j,j<(f i).length→RelK K ((f i).getD j .junk) (arr.getD (base+j) undef)∧(arr.getD (base+j) undef).oneCell'=true:=by
 cases h with
 | kel _ _ _ _ _ b off arr T fz g hK hg hl hr ho hi =>
  have hli:=hl i hi
  have key:∀ j,j<(f i).length→arr[off+i*sz+j]?=some (g i j):=fun j hj=>hg i j hi (by omega)
  refine ⟨b,off+i*sz,arr,T,fz,rfl,hk _ _ hK,hli,?_,?_⟩
  ·intro h0
   have:=key ((f i).length - 1) (by omega)
   have:=(Array.getElem?_eq_some_iff.1 this).1
   omega
  ·intro j hj
   have hgj:=key j hj
   have:arr.getD (off+i*sz+j) undef=g i j:=by simp [hgj]
   rw [this]
   exact ⟨hr i j hi (by omega),ho i j hi (by omega)⟩
theorem view_kptr{K:Know}{cs:List C}{o:Nat}{u:Value}(hk:Knows K w)(h:RelK K (.kptr cs o) u):
  ∃ b arr T fz,u=.pointer (some ⟨b,o,none⟩)∧w.heap[b]?=some (.cells arr T fz)∧RelLK K cs arr:=by
 cases h with
 | kptr _ _ b arr T fz hK hs hr ho=>exact ⟨b,arr,T,fz,rfl,hk _ _ hK,hs,fun j hj=>⟨hr j hj,ho j hj⟩⟩
theorem relSB_c{c:C}{u:Value}(h:RelSB E (.v (.c c)) u):Rel E c u:=h.1
theorem Core.cells{n:Nat}{cs:List C}(hc:Core B E m w)(h:m[n]?=some (some (.cells cs))):∃ b arr T,E.cel n=some b∧w.heap[b]?=some (.cells arr T (0,0))∧RelLK E.K cs arr:=
 hc.mem n _ h
theorem Core.pcells{n:Nat}{cs:List C}(hc:Core B E m w)(h:m[n]?=some (some (.pcells cs))):∃ b arr T,E.cel n=some b∧w.heap[b]?=some (.cells arr T (0,0))∧RelL E cs arr:=
 hc.mem n _ h
theorem relP_at{n off b:Nat}{u:Value}(h:RelP E n off u)(hb:E.cel n=some b):u=.pointer (some ⟨b,off,none⟩):=by
 obtain ⟨b',e,hu⟩:=h
 rw [hb] at e
 cases e
 exact hu
theorem flatten_length(css:List (List C))(sz:Nat)(h:∀ c,c∈css→c.length=sz):css.flatten.length=css.length*sz:=by
 induction css with
 | nil=>simp
 | cons c css ih =>
  simp only [List.flatten_cons,List.length_append,List.length_cons,ih (fun x hx=>h x (List.mem_cons_of_mem _ hx)),h c List.mem_cons_self,Nat.add_mul]
  omega
theorem flatten_getD(css:List (List C))(sz:Nat)(h:∀ c,c∈css→c.length=sz):∀ i j,i<css.length→j<sz→css.flatten.getD (i*sz+j) .junk=(css.getD i []).getD j .junk:=by
 induction css with
 | nil=>intro i j hi;simp at hi
 | cons c css ih =>
  intro i j hi hj
  have hcl:c.length=sz:=h c List.mem_cons_self
  cases i with
  | zero =>
   simp only [List.flatten_cons,Nat.zero_mul,Nat.zero_add,gE,List.getElem?_cons_zero,Option.getD_some]
   rw [List.getElem?_append_left (by omega)]
  | succ i =>
   have:=ih (fun x hx=>h x (List.mem_cons_of_mem _ hx)) i j (by simpa using hi) hj
   simp only [List.flatten_cons,gE,List.getElem?_cons_succ] at this ⊢
   rw [List.getElem?_append_right (by rw [hcl,Nat.add_mul];omega)]
   rw [← this]
   congr 2
   rw [hcl,Nat.add_mul]
   omega
theorem getElem?_toArray_getD(xs:List Value)(j:Nat):xs.toArray.getD j undef=xs.getD j undef:=by simp [gE]
theorem Core.row{n e sz:Nat}{css:List (List C)}(hc:Core B E m w)(h:m[n]?=some (some (.row e sz css))):MRel E w n (.row e sz css):=hc.mem n _ h
theorem row_cells{n e sz:Nat}{css:List (List C)}{hd:Value}{g cap:Nat}(h:MRel E w n (.row e sz css))(hrw:E.rw n=some (hd,css.length))(hhd:hd=.slice (some ⟨g,0,none⟩) css.length cap):
  ∃ arr,w.heap[g]?=some (.cells arr e (0,0))∧css.length*sz≤arr.size∧arr.size=cap*sz∧css.length≤cap∧cap≤maxLen ∧
   ∀ i j,i<css.length→j<sz→RelK E.K ((css.getD i []).getD j .junk) (arr.getD (i*sz+j) undef)∧(arr.getD (i*sz+j) undef).oneCell'=true:=by
 obtain ⟨hsz,hlen,hd',xs,hrw',hown,hrel⟩:=h
 rw [hrw] at hrw'
 cases hrw'
 subst hhd
 obtain ⟨hxl,hcase⟩:=hown
 rcases hcase with ⟨h0,_⟩ | ⟨g',cap',cur,hv,_,hg,hle,hcm,hcs,htake⟩
 ·cases h0
 ·cases hv
  have hfl:=flatten_length css sz hlen
  have hmul:css.length*sz≤cap*sz:=Nat.mul_le_mul_right _ hle
  refine ⟨cur,hg,by omega,hcs,hle,hcm,?_⟩
  intro i j hi hj
  have hij:i*sz+j<css.length*sz:=by
   have:(i+1)*sz≤css.length*sz:=Nat.mul_le_mul_right _ hi
   rw [Nat.add_mul] at this
   omega
  have hr:=hrel.2 (i*sz+j) (by omega)
  rw [flatten_getD css sz hlen i j hi hj,getElem?_toArray_getD] at hr
  have hx:xs.getD (i*sz+j) undef=cur.getD (i*sz+j) undef:=by
   rw [← htake]
   simp only [gE,List.getElem?_take,if_pos hij]
   simp
  rwa [hx] at hr
theorem load_sound{o:Oper}{a:Act}{t:TypeId}{x:Operand}{vs:List SB}{r:SB}{ms':List (Option (Option MO))}{q:List Prop}(hc:Core B E m w)(ho:o.op=.load t x) 
  (hv:Vals E a.eval [x] vs) (hact:actLoad P t vs ((Op.names o.op o.dst vs).map (getM m))=some (r,ms',q)) (hq:allP q):Done P B E m r o a w:=by
 obtain ⟨v,rfl⟩:∃ v,vs=[v]:=by
  match vs,hv.1 with
  | [v],_=>exact ⟨v,rfl⟩
 have hx:=hv.one
 rw [ho] at hact
 unfold actLoad at hact
 split at hact
 ·rename_i n off heq
  cases heq
  simp only [Op.names,List.map_cons,List.map_nil] at hact
  split at hact
  ·rename_i cs hm
   obtain ⟨hck,hact⟩:=ck_some hact
   cases hact
   obtain ⟨hq,hty⟩:=ckPart_spec hck
   obtain ⟨b,arr,T,hb,hh,hrel⟩:=hc.cells (by simpa [getM] using hm)
   have hu:=relP_at (relSB_c hx) hb
   refine done_value hc (run_load_at ho hu hty hh (by have:=hrel.1;omega)) ?_
   have:=part_k (P:=P) (E:=E) (base:=0) (arr:=arr) hty hq (by have:=hrel.1;omega) (fun j hj=>by simpa using hrel.2 j hj)
   simp only [Nat.zero_add] at this
   exact this
  ·rename_i cs hm
   obtain ⟨hck,hact⟩:=ck_some hact
   cases hact
   obtain ⟨hq,hty⟩:=ckPart_spec hck
   obtain ⟨b,arr,T,hb,hh,hrel⟩:=hc.pcells (by simpa [getM] using hm)
   have hu:=relP_at (relSB_c hx) hb
   refine done_value hc (run_load_at ho hu hty hh (by have:=hrel.1;omega)) ?_
   have:=part_p (P:=P) (E:=E) (base:=0) (arr:=arr) hty hq (by have:=hrel.1;omega) (fun j hj=>by simpa using hrel.2 j hj)
   simp only [Nat.zero_add] at this
   exact this
  ·cases hact
 ·rename_i cs off heq
  cases heq
  obtain ⟨hck,hact⟩:=ck_some hact
  cases hact
  obtain ⟨hq,hty⟩:=ckPart_spec hck
  obtain ⟨b,arr,T,fz,hu,hh,hrel⟩:=view_kptr hc.know (relSB_c hx)
  refine done_value hc (run_load_at ho hu hty hh (by have:=hrel.1;omega)) ?_
  have:=part_k (P:=P) (E:=E) (base:=0) (arr:=arr) hty hq (by have:=hrel.1;omega) (fun j hj=>by simpa using hrel.2 j hj)
  simp only [Nat.zero_add] at this
  exact this
 ·rename_i sz n f i off heq
  cases heq
  obtain ⟨hck,hact⟩:=ck_some hact
  cases hact
  obtain ⟨hq,hty⟩:=ckPart_spec hck
  obtain ⟨b,base,arr,T,fz,hu,hh,hl,hsz,hrel⟩:=view_kel hc.know (relSB_c hx)
  have hpos:=tyOk_pos hty
  refine done_value hc (run_load_at ho hu hty hh (by have:=hsz (by omega);omega)) ?_
  exact part_k (P:=P) (E:=E) (base:=base) (arr:=arr) hty (by omega) (by have:=hsz (by omega);omega) hrel
 ·rename_i n k sz i off heq
  cases heq
  simp only [Op.names,List.map_cons,List.map_nil] at hact
  split at hact
  ·rename_i e sz' css hm
   obtain ⟨hck,hact⟩:=ck_some hact
   cases hact
   obtain ⟨hk,hik⟩:=hq
   simp only [Bool.and_eq_true] at hck
   obtain ⟨hq,hty⟩:=ckPart_spec hck.2
   have hse:=Nat.eq_of_beq_eq_true hck.1
   subst hse
   have hm':m[n]?=some (some (.row e sz css)):=by simpa [getM] using hm
   obtain ⟨hd,len,hrw,hle,himp⟩:∃ hd len,E.rw n=some (hd,len)∧k≤len∧(k=len→∃ g cap,hd=.slice (some ⟨g,0,none⟩) k cap∧a.eval x=.pointer (some ⟨g,i*sz+off,none⟩)):=relSB_c hx
   have hM:=hc.row hm'
   have hlen:len=css.length:=by
    obtain ⟨_,_,hd',xs,hrw',_⟩:=hM
    rw [hrw] at hrw'
    cases hrw'
    rfl
   obtain ⟨g,cap,hhd,hu⟩:=himp (by omega)
   subst hk
   subst hlen
   obtain ⟨arr,hg,hsz,hcap,hcl,hcm,hrel⟩:=row_cells hM hrw hhd
   have hpos:=tyOk_pos hty
   have hcl:(css.getD i []).length=sz:=hM.2.1 _ (by
    simp only [gE,List.getElem?_eq_getElem hik,Option.getD_some]
    exact List.getElem_mem hik)
   have hmul:(i+1)*sz≤css.length*sz:=Nat.mul_le_mul_right _ hik
   rw [Nat.add_mul] at hmul
   refine done_value hc (run_load_at ho hu hty hg (by omega)) ?_
   exact part_k (P:=P) (E:=E) (base:=i*sz) (arr:=arr) hty (by omega) (by omega) (fun j hj=>hrel i j hik (by omega))
  ·cases hact
 ·cases hact
end Go.Sym
namespace Go.Sym
open Go.RowKit
variable {P:Program} {B:Base P} {E:Env} {m:List (Option MO)} {w:World}
theorem MRel.other{w':World}{n:Nat}{o:MO}(h:MRel E w n o)(hb:∀ b,E.holds n b→w'.heap[b]?=w.heap[b]?):MRel E w' n o:=by
 cases o with
 | cells cs=>obtain ⟨b,arr,T,hc,hh,hr⟩:=h;exact ⟨b,arr,T,hc,(hb b (.inl hc)).trans hh,hr⟩
 | pcells cs=>obtain ⟨b,arr,T,hc,hh,hr⟩:=h;exact ⟨b,arr,T,hc,(hb b (.inl hc)).trans hh,hr⟩
 | tcells T cs=>obtain ⟨b,arr,hc,hh,hr⟩:=h;exact ⟨b,arr,hc,(hb b (.inl hc)).trans hh,hr⟩
 | row e sz css =>
  obtain ⟨hsz,hl,hd,xs,hrw,⟨hx,hcase⟩,hr⟩:=h
  refine ⟨hsz,hl,hd,xs,hrw,⟨hx,?_⟩,hr⟩
  rcases hcase with h0 | ⟨g,cap,cur,hv,hg,hh,rest⟩
  ·exact .inl h0
  ·exact .inr ⟨g,cap,cur,hv,hg,(hb g (.inr (.inr ⟨hd,_,hrw,by rw [hv];rfl⟩))).trans hh,rest⟩
 | omap kagg agg ents=>obtain ⟨b,es,hc,hh,hr⟩:=h;exact ⟨b,es,hc,(hb b (.inr (.inl hc))).trans hh,hr⟩
 | gone=>exact h
 | cnt i xs k=>exact h
 | bag e sz css =>
  obtain ⟨css',hp,hsz,hl,hd,xs,hrw,⟨hx,hcase⟩,hr⟩:=h
  refine ⟨css',hp,hsz,hl,hd,xs,hrw,⟨hx,?_⟩,hr⟩
  rcases hcase with h0 | ⟨g,cap,cur,hv,hg,hh,rest⟩
  ·exact .inl h0
  ·exact .inr ⟨g,cap,cur,hv,hg,(hb g (.inr (.inr ⟨hd,_,hrw,by rw [hv];rfl⟩))).trans hh,rest⟩
theorem MRel.mono{E':Env}(h:E.Le E'){n:Nat}{o:MO}(hr:MRel E w n o)(hrw:E'.rw n=E.rw n):MRel E' w n o:=by
 cases o with
 | cells cs=>obtain ⟨b,arr,T,hc,hh,hr⟩:=hr;exact ⟨b,arr,T,h.cel _ _ hc,hh,hr.mono h.K⟩
 | pcells cs=>obtain ⟨b,arr,T,hc,hh,hr⟩:=hr;exact ⟨b,arr,T,h.cel _ _ hc,hh,hr.mono h⟩
 | tcells T cs=>obtain ⟨b,arr,hc,hh,hn,hr⟩:=hr;exact ⟨b,arr,h.cel _ _ hc,hh,hn,hr.mono h⟩
 | row e sz css =>
  obtain ⟨hsz,hl,hd,xs,hw,ho,hr⟩:=hr
  exact ⟨hsz,hl,hd,xs,hrw.trans hw,ho,hr.mono h.K⟩
 | omap kagg agg ents=>obtain ⟨b,es,hc,hh,hr⟩:=hr;exact ⟨b,es,h.mp _ _ hc,hh,hr.mono h.K⟩
 | gone=>obtain ⟨hd,len,hw,hn⟩:=hr;exact ⟨hd,len,hrw.trans hw,hn⟩
 | cnt i xs k=>obtain ⟨h1,h2,h3⟩:=hr;exact ⟨by rw [h.c];exact h1,by rw [h.c];exact h2,by rw [h.c];exact h3⟩
 | bag e sz css =>
  obtain ⟨css',hp,hsz,hl,hd,xs,hw,ho,hr⟩:=hr
  exact ⟨css',hp,hsz,hl,hd,xs,hrw.trans hw,ho,hr.mono h.K⟩
theorem getElem?_set_some{m:List (Option MO)}{n k:Nat}{o x:Option MO}(h:(m.set n o)[k]?=some x):(k=n∧x=o)∨(k≠n∧m[k]?=some x):=by
 rw [List.getElem?_set] at h
 by_cases hk:n=k
 ·subst hk
  rw [if_pos rfl] at h
  split at h
  ·exact .inl ⟨rfl,(Option.some.inj h).symm⟩
  ·cases h
 ·rw [if_neg hk] at h
  exact .inr ⟨fun e=>hk e.symm,h⟩
theorem getElem?_set_ne{m:List (Option MO)}{n k:Nat}{o:Option MO}(h:k≠n):(m.set n o)[k]?=m[k]?:=by
 rw [List.getElem?_set,if_neg (fun e=>h e.symm)]
theorem getElem?_set_eq{m:List (Option MO)}{n:Nat}{o:Option MO}{x:Option MO}(h:m[n]?=some x):(m.set n o)[n]?=some o:=by
 rw [List.getElem?_set,if_pos rfl,if_pos (List.getElem?_eq_some_iff.1 h).1]
theorem Core.step{E':Env}{w':World}{n:Nat}{o':MO}(hc:Core B E m w)(hm:∃ x,m[n]?=some x)(hle:E.Le E')(hK:E'.K=E.K) 
  (hother:∀ k,k≠n→E'.cel k=E.cel k∧E'.rw k=E.rw k∧E'.mp k=E.mp k)
  (hcel:∀ b,E'.cel n=some b→o'.boxy=true) (hrw:∀ x,E'.rw n=some x→o'.rowy=true) (hmp:∀ b,E'.mp n=some b→∃ kagg agg ents,o'=.omap kagg agg ents)
  (hmem:MRel E' w' n o') (hn:∀ b,E'.holds n b→(w.heap.size≤b∨E.holds n b)∧b<w'.heap.size) (hsz:w.heap.size≤w'.heap.size) (hos:w'.os=w.os) (htape:w'.tape=w.tape) (hout:w'.output=w.output)
  (hheap:∀ b,b<w.heap.size→¬ E.holds n b→w'.heap[b]?=w.heap[b]?):Core B E' (m.set n (some o')) w':=by
 obtain ⟨x0,hm0⟩:=hm
 have hholds:∀ k b,k≠n→(E'.holds k b↔E.holds k b):=fun k b hk=>by
  obtain ⟨h1,h2,h3⟩:=hother k hk
  unfold Env.holds
  rw [h1,h2,h3]
 have hne:∀ k b,k≠n→E.holds k b→¬ E.holds n b:=fun k b hk h h'=>hk (hc.inj k n b h h')
 exact
 {laid:=by rw [hK];exact hc.laid
  know:=fun b x hx=>by
   rw [hK] at hx
   have h:=hc.know b x hx
   have hlt:=(Array.getElem?_eq_some_iff.1 h).1
   rw [hheap b hlt (fun hh=>by have:=hc.apart n b hh;rw [this] at hx;cases hx)]
   exact h
  base:=by rw [hK,hle.c];exact hc.base
  nk:=by rw [hK,hle.c];exact hc.nk
  mem:=fun k x hx=>by
   rcases getElem?_set_some hx with ⟨rfl,hx2⟩ | ⟨hk,hx2⟩
   ·cases hx2;exact hmem
   ·exact ((hc.mem k x hx2).other fun b hb=>hheap b (hc.lt k b hb) (hne k b hk hb)).mono hle (hother k hk).2.1
  cel:=fun k b h=>by
   by_cases hk:k=n
   ·subst hk
    exact ⟨o',getElem?_set_eq hm0,hcel b h⟩
   ·rw [getElem?_set_ne hk];exact hc.cel k b (by rw [← (hother k hk).1];exact h)
  rw:=fun k x h=>by
   by_cases hk:k=n
   ·subst hk
    exact ⟨o',getElem?_set_eq hm0,hrw x h⟩
   ·rw [getElem?_set_ne hk];exact hc.rw k x (by rw [← (hother k hk).2.1];exact h)
  mp:=fun k b h=>by
   by_cases hk:k=n
   ·subst hk
    obtain ⟨kagg,agg,ents,rfl⟩:=hmp b h
    exact ⟨kagg,agg,ents,getElem?_set_eq hm0⟩
   ·rw [getElem?_set_ne hk];exact hc.mp k b (by rw [← (hother k hk).2.2];exact h)
  inj:=fun n1 n2 b h1 h2=>by
   by_cases hk1:n1=n<;>by_cases hk2:n2=n
   ·rw [hk1,hk2]
   ·subst hk1
    have h2':=(hholds n2 b hk2).1 h2
    rcases (hn b h1).1 with h | h
    ·have:=hc.lt n2 b h2';omega
    ·exact hc.inj _ _ b h h2'
   ·subst hk2
    have h1':=(hholds n1 b hk1).1 h1
    rcases (hn b h2).1 with h | h
    ·have:=hc.lt n1 b h1';omega
    ·exact hc.inj _ _ b h1' h
   ·exact hc.inj _ _ b ((hholds n1 b hk1).1 h1) ((hholds n2 b hk2).1 h2)
  apart:=fun k b h=>by
   rw [hK]
   by_cases hk:k=n
   ·subst hk
    rcases (hn b h).1 with h | h
    ·cases hkb:E.K b with
     | none=>rfl
     | some x =>
      have:=(Array.getElem?_eq_some_iff.1 (hc.know b x hkb)).1
      omega
    ·exact hc.apart _ b h
   ·exact hc.apart k b ((hholds k b hk).1 h)
  new:=fun k b h=>by
   rw [hle.c]
   by_cases hk:k=n
   ·subst hk
    rcases (hn b h).1 with h | h
    ·left;exact Nat.le_trans hc.size h
    ·exact hc.new _ b h
   ·exact hc.new k b ((hholds k b hk).1 h)
  lt:=fun k b h=>by
   by_cases hk:k=n
   ·subst hk;exact (hn b h).2
   ·exact Nat.lt_of_lt_of_le (hc.lt k b ((hholds k b hk).1 h)) hsz
  os:=by rw [hle.c];exact hos.trans hc.os
  tape:=by rw [hle.c];exact htape.trans hc.tape
  output:=by rw [hle.c];exact hout.trans hc.output
  size:=by rw [hle.c];exact Nat.le_trans hc.size hsz
  old:=by
   rw [hle.c]
   intro b h1 h2
   rw [hheap b (Nat.lt_of_lt_of_le h1 hc.size) (fun hh=>by
    rcases hc.new n b hh with h | h
    ·omega
    ·exact h2 h)]
   exact hc.old b h1 h2
  j:=by rw [hle.c];exact hc.j
  y:=by rw [hle.c];exact hc.y
  dsk:=by rw [hle.c,hK];exact hc.dsk
  dsn:=by rw [hle.c];exact hc.dsn }
theorem boxy_rowy{o:MO}(h:o.boxy=true)(h':o.rowy=true):False:=by cases o<;>first | (cases h;done) | (cases h';done)
theorem Core.noRow{n b:Nat}(hc:Core B E m w)(h:E.cel n=some b):E.rw n=none∧E.mp n=none:=by
 obtain ⟨o2,h2,h4⟩:=hc.cel n b h
 constructor
 ·cases hr:E.rw n with
  | none=>rfl
  | some x =>
   obtain ⟨o,h1,h3⟩:=hc.rw n x hr
   rw [h1] at h2
   cases h2
   exact (boxy_rowy h4 h3).elim
 ·cases hr:E.mp n with
  | none=>rfl
  | some x =>
   obtain ⟨kagg,agg,ents,h1⟩:=hc.mp n x hr
   rw [h1] at h2
   cases h2
   cases h4
theorem Core.noCel{n:Nat}{x:Value×Nat}(hc:Core B E m w)(h:E.rw n=some x):E.cel n=none∧E.mp n=none:=by
 obtain ⟨o,h2,h3⟩:=hc.rw n x h
 constructor
 ·cases hr:E.cel n with
  | none=>rfl
  | some b =>
   obtain ⟨o1,h1,h4⟩:=hc.cel n b hr
   rw [h1] at h2
   cases h2
   exact (boxy_rowy h4 h3).elim
 ·cases hr:E.mp n with
  | none=>rfl
  | some x =>
   obtain ⟨kagg,agg,ents,h1⟩:=hc.mp n x hr
   rw [h1] at h2
   cases h2
   cases h3
theorem Core.nothing{n:Nat}(hc:Core B E m w)(hm:m[n]?=some none):E.cel n=none∧E.rw n=none∧E.mp n=none:=by
 refine ⟨?_,?_,?_⟩
 ·cases h:E.cel n with
  | none=>rfl
  | some b=>obtain ⟨o1,h1,_⟩:=hc.cel n b h;rw [hm] at h1;cases h1
 ·cases h:E.rw n with
  | none=>rfl
  | some x=>obtain ⟨o,h1,_⟩:=hc.rw n x h;rw [hm] at h1;cases h1
 ·cases h:E.mp n with
  | none=>rfl
  | some x=>obtain ⟨_,e,sz,h1⟩:=hc.mp n x h;rw [hm] at h1;cases h1
theorem holds_cel{n b b':Nat}(hrw:E.rw n=none)(hmp:E.mp n=none)(hcel:E.cel n=some b)(h:E.holds n b'):b'=b:=by
 rcases h with h | h | ⟨hd,len,h,_⟩
 ·rw [hcel] at h;cases h;rfl
 ·rw [hmp] at h;cases h
 ·rw [hrw] at h;cases h
theorem Core.store{n b:Nat}{arr arr':Array Value}{T:TypeId}{o o':MO}(hc:Core B E m w)(hm:m[n]?=some (some o))(hcel:E.cel n=some b)(hb:w.heap[b]?=some (.cells arr T (0,0))) 
  (ho:∃ cs,o'=.cells cs∧RelLK E.K cs arr'∨o'=.pcells cs∧RelL E cs arr'):Core B E (m.set n (some o')) (w.setRow b arr'):=by
 obtain ⟨hrn,hmn⟩:=hc.noRow hcel
 refine hc.step ⟨_,hm⟩ (Env.Le.refl E) rfl (fun _ _=>⟨rfl,rfl,rfl⟩) (fun b h=>?_) (fun x h=>?_) (fun b h=>?_) ?_ (fun b' h=>⟨.inr h,by rw [size_setRow];exact hc.lt n b' h⟩) (by rw [size_setRow];exact Nat.le_refl _) rfl rfl rfl (fun b' hb' hh=>?_)
 ·obtain ⟨cs,⟨rfl,_⟩ | ⟨rfl,_⟩⟩:=ho
  ·rfl
  ·rfl
 ·rw [hrn] at h;cases h
 ·rw [hmn] at h;cases h
 ·obtain ⟨cs,⟨rfl,hr⟩ | ⟨rfl,hr⟩⟩:=ho
  ·exact ⟨b,arr',T,hcel,setRow_heap w b arr arr' T (0,0) hb,hr⟩
  ·exact ⟨b,arr',T,hcel,setRow_heap w b arr arr' T (0,0) hb,hr⟩
 ·exact setRow_other w b b' arr' (fun e=>hh (by rw [e];exact .inl hcel))
theorem Core.alloc{n:Nat}{arr:Array Value}{T:TypeId}{o':MO}(hc:Core B E m w)(hm:m[n]?=some none) 
  (ho:(∃ cs,o'=.cells cs∧RelLK E.K cs arr∨o'=.pcells cs∧RelL E cs arr)∨∃ cs,o'=.tcells T cs∧SelfNil w.heap.size arr∧RelL E cs arr) :
  ∃ E',E.Le E'∧E'.cel n=some w.heap.size∧Core B E' (m.set n (some o')) (w.alloc (.cells arr T)):=by
 obtain ⟨hcn,hrn,hmn⟩:=hc.nothing hm
 let E':Env:={ E with cel:=fun k=>if k=n then some w.heap.size else E.cel k }
 have hle:E.Le E':=⟨Know.le_refl _,fun k b h=>by
   show (if k=n then _ else E.cel k)=_
   by_cases hk:k=n
   ·subst hk;rw [hcn] at h;cases h
   ·rw [if_neg hk];exact h,fun _ _ h=>h,rfl,fun r hd len h=>⟨hd,len,h,Nat.le_refl _,fun _=>rfl⟩⟩
 have hcel:E'.cel n=some w.heap.size:=if_pos rfl
 refine ⟨E',hle,hcel,hc.step ⟨_,hm⟩ hle rfl (fun k hk=>⟨if_neg hk,rfl,rfl⟩) (fun b h=>?_) (fun x h=>?_) (fun b h=>?_) ?_ (fun b' h=>?_) (by rw [World.size_alloc];omega) rfl rfl rfl (fun b' hb' hh=>heapOld w _ b' hb')⟩
 ·obtain ⟨cs,⟨rfl,_⟩ | ⟨rfl,_⟩⟩ | ⟨cs,rfl,_⟩:=ho
  ·rfl
  ·rfl
  ·rfl
 ·rw [show E'.rw n=E.rw n from rfl,hrn] at h;cases h
 ·rw [show E'.mp n=E.mp n from rfl,hmn] at h;cases h
 ·obtain ⟨cs,⟨rfl,hr⟩ | ⟨rfl,hr⟩⟩ | ⟨cs,rfl,hsn,hr⟩:=ho
  ·exact ⟨w.heap.size,arr,T,hcel,heap_alloc_new w _,hr⟩
  ·exact ⟨w.heap.size,arr,T,hcel,heap_alloc_new w _,hr.mono hle⟩
  ·exact ⟨w.heap.size,arr,hcel,heap_alloc_new w _,hsn,hr.mono hle⟩
 ·have:=holds_cel (E:=E') hrn hmn hcel h
  subst this
  exact ⟨.inl (Nat.le_refl _),by rw [World.size_alloc];omega⟩
theorem valC_rel(v:Value)(hv:v.oneCell'=true):RelK E.K (valC v) v:=by
 unfold valC
 split
 ·exact .int _ _
 ·exact .bool _
 ·split
  ·rename_i h
   exact .str _ (Nat.le_of_ble_eq_true h)
  ·exact .lit _ hv
 ·exact .nil
 ·exact .junk _
 ·exact .junk _
 ·exact .lit _ hv
theorem zero_cells{z:Value}(h:z.cells.all Value.oneCell'=true):RelLK E.K (z.cells.toList.map valC) z.cells:=by
 refine ⟨by simp,fun j hj=>?_⟩
 simp only [List.length_map,Array.length_toList] at hj
 have h1:z.cells[j].oneCell'=true:=(Array.all_eq_true.1 h) j hj
 have h2:(z.cells.toList.map valC).getD j .junk=valC z.cells[j]:=by
  simp [gE,hj]
 have h3:z.cells.getD j undef=z.cells[j]:=by simp [hj]
 rw [h2,h3]
 exact ⟨valC_rel _ h1,h1⟩
theorem rel_ptr{n b:Nat}(h:E.cel n=some b):RelSB E (.v (.c (.ptr n 0))) (.pointer (some ⟨b,0,none⟩)):=⟨⟨b,h,rfl⟩,rfl⟩
theorem run_zeroValue{t:TypeId}{z:Value}(h:zeroT P t=some z):(zeroValue t).run P w=.ok z w:=by
 unfold zeroT at h
 cases hi:P.info? t with
 | none=>simp [hi] at h
 | some i =>
  have:i.zero=some z:=by simpa [hi] using h
  simp [zeroValue,typeInfo,hi,this]
theorem newO_ok{z:Value}{t:TypeId}{b:Nat}(hz:z.cells.all Value.oneCell'=true):(∃ cs,newO t z=.cells cs∧RelLK E.K cs z.cells∨newO t z=.pcells cs∧RelL E cs z.cells)∨∃ cs,newO t z=.tcells t cs∧SelfNil b z.cells∧RelL E cs z.cells:=by
 unfold newO
 cases h:bldZ z with
 | false=>exact .inl ⟨_,.inl ⟨rfl,zero_cells hz⟩⟩
 | true =>
  right
  have hc:z.cells=#[.pointer none,.slice none 0 0]:=by
   unfold bldZ at h
   split at h
   ·rename_i h2
    rw [← Array.toArray_toList (xs:=z.cells),h2]
   ·cases h
  refine ⟨_,rfl,.inl (by rw [hc];rfl),?_⟩
  rw [hc]
  refine ⟨rfl,fun j hj=>?_⟩
  match j,hj with
  | 0,_=>exact ⟨.junk _,rfl⟩
  | 1,_=>exact ⟨.nil,rfl⟩
theorem alloc_sound{o:Oper}{a:Act}{t:TypeId}{vs:List SB}{r:SB}{ms':List (Option (Option MO))}{q:List Prop}(hc:Core B E m w)(ho:o.op=.alloc t) 
  (hact:actAlloc P t o.dst ((Op.names o.op o.dst vs).map (getM m))=some (r,ms',q)):Done P B E (putM m (Op.names o.op o.dst vs) ms') r o a w:=by
 unfold actAlloc at hact
 rw [ho] at hact ⊢
 split at hact
 ·rename_i n z hd hzt hm
  split at hact
  case isFalse=>cases hact
  rename_i hz
  cases hact
  simp only [Op.names,hd,Option.toList_some,List.map_cons,List.map_nil] at hm ⊢
  have hmn:m[n]?=some none:=by
   have:=(List.cons.inj hm).1
   simpa [getM] using this
  obtain ⟨E',hle,hcel,hc'⟩:=hc.alloc (T:=t) (o':=newO t z) hmn (newO_ok hz)
  intro next Q h
  refine wpIn_of (by intro c hc;rw [ho] at hc;cases hc) ?_
  have hrun:(execOp a.eval o).run P w=.ok (.value (.pointer (some ⟨w.heap.size,0,none⟩))) (w.alloc (.cells z.cells t)):=by
   simp only [execOp,ho,Instr.alloc,Sem.run_bind,run_zeroValue hzt,Result.andThen_ok,newVar,newRow,run_newObj,Sem.run_pure,World.alloc_eq]
  rw [hrun]
  exact h _ _ E' hle hc' (rel_ptr hcel)
 ·cases hact
theorem cvCells_rel{x:CV}{u:Value}(h:RelCV E x u):RelL E (cvCells x) u.cells:=by
 cases x with
 | c x =>
  obtain ⟨hr,h1⟩:=h
  have hcells:u.cells=#[u]:=by cases u<;>first | rfl | simp [Value.oneCell'] at h1
  rw [hcells]
  refine ⟨rfl,fun j hj=>?_⟩
  have:j=0:=by simp [cvCells] at hj;exact hj
  subst this
  exact ⟨hr,h1⟩
 | agg cs=>obtain ⟨arr,rfl,hl⟩:=h;exact hl.relL
 | pagg cs=>obtain ⟨arr,rfl,hl⟩:=h;exact hl
theorem cvCells_relK{x:CV}{u:Value}(hx:x.isImm=true)(h:RelCV E x u):RelLK E.K (cvCells x) u.cells:=by
 cases x with
 | c x =>
  obtain ⟨hr,h1⟩:=h
  have hcells:u.cells=#[u]:=by cases u<;>first | rfl | simp [Value.oneCell'] at h1
  rw [hcells]
  refine ⟨rfl,fun j hj=>?_⟩
  have:j=0:=by simp [cvCells] at hj;exact hj
  subst this
  exact ⟨Rel.imm hx hr,h1⟩
 | agg cs=>obtain ⟨arr,rfl,hl⟩:=h;exact hl
 | pagg cs=>simp [CV.isImm] at hx
theorem newCells_ok{x:CV}{cs:List C}{arr:Array Value}(h1:x.isImm=true→RelLK E.K cs arr)(h2:RelL E cs arr):
  ∃ ds,newCells x cs=.cells ds∧RelLK E.K ds arr∨newCells x cs=.pcells ds∧RelL E ds arr:=by
 unfold newCells
 cases hx:x.isImm with
 | true=>exact ⟨cs,.inl ⟨rfl,h1 hx⟩⟩
 | false=>exact ⟨cs,.inr ⟨rfl,h2⟩⟩
theorem box_sound{o:Oper}{a:Act}{t:TypeId}{x:Operand}{vs:List SB}{r:SB}{ms':List (Option (Option MO))}{q:List Prop}(hc:Core B E m w)(ho:o.op=.box t x) 
  (hv:Vals E a.eval [x] vs) (hact:actBox o.dst vs ((Op.names o.op o.dst vs).map (getM m))=some (r,ms',q)):Done P B E (putM m (Op.names o.op o.dst vs) ms') r o a w:=by
 unfold actBox at hact
 rw [ho] at hact ⊢
 split at hact
 ·rename_i n y hd hm
  cases hact
  have hy:=hv.one
  simp only [Op.names,hd,Option.toList_some,List.map_cons,List.map_nil] at hm ⊢
  have hmn:m[n]?=some none:=by
   have:=(List.cons.inj hm).1
   simpa [getM] using this
  obtain ⟨E',hle,hcel,hc'⟩:=hc.alloc (T:=t) (arr:=(a.eval x).cells) (o':=newCells y (cvCells y)) hmn (.inl (newCells_ok (fun hi=>cvCells_relK hi hy) (cvCells_rel hy)))
  intro next Q h
  refine wpIn_of (by intro c hc;rw [ho] at hc;cases hc) ?_
  have hrun:(execOp a.eval o).run P w=.ok (.value (.pointer (some ⟨w.heap.size,0,none⟩))) (w.alloc (.cells (a.eval x).cells t)):=by
   simp only [execOp,ho,Instr.box,Sem.run_bind,Result.andThen_ok,newVar,newRow,run_newObj,Sem.run_pure,World.alloc_eq]
  rw [hrun]
  exact h _ _ E' hle hc' (rel_ptr hcel)
 ·cases hact
theorem splice_length(cs new:List C)(off:Nat)(h:off+new.length≤cs.length):(splice cs off new).length=cs.length:=by
 unfold splice
 simp;omega
theorem splice_getD(cs new:List C)(off j:Nat)(h:off+new.length≤cs.length):
  (splice cs off new).getD j .junk=if off≤j∧j<off+new.length then new.getD (j - off) .junk else cs.getD j .junk:=by
 unfold splice
 simp only [gE,List.append_assoc]
 have h1:(cs.take off).length=off:=by simp;omega
 by_cases hj:j<off
 ·rw [List.getElem?_append_left (by omega),List.getElem?_take,if_pos hj,if_neg (by omega)]
 ·rw [List.getElem?_append_right (by omega),h1]
  by_cases hj2:j<off+new.length
  ·rw [List.getElem?_append_left (by omega),if_pos (by omega)]
  ·rw [List.getElem?_append_right (by omega),List.getElem?_drop,if_neg (by omega)]
   congr 2
   omega
def spliceA(arr:Array Value)(off:Nat)(us:List Value):Array Value:=(arr.toList.take off++us++arr.toList.drop (off+us.length)).toArray
theorem spliceA_size(arr:Array Value)(us:List Value)(off:Nat)(h:off+us.length≤arr.size):(spliceA arr off us).size=arr.size:=by
 unfold spliceA
 simp;omega
theorem spliceA_getD(arr:Array Value)(us:List Value)(off j:Nat)(h:off+us.length≤arr.size):
  (spliceA arr off us).getD j undef=if off≤j∧j<off+us.length then us.getD (j - off) undef else arr.getD j undef:=by
 unfold spliceA
 rw [getElem?_toArray_getD]
 simp only [gE,List.append_assoc]
 have h1:(arr.toList.take off).length=off:=by simp;omega
 by_cases hj:j<off
 ·rw [List.getElem?_append_left (by omega),List.getElem?_take,if_pos hj,if_neg (by omega)]
  simp
 ·rw [List.getElem?_append_right (by omega),h1]
  by_cases hj2:j<off+us.length
  ·rw [List.getElem?_append_left (by omega),if_pos (by omega)]
  ·rw [List.getElem?_append_right (by omega),List.getElem?_drop,if_neg (by omega)]
   have:off+us.length+(j - off - us.length)=j:=by omega
   rw [this]
   simp
theorem splice_relG{R:C→Value→Prop}{cs new:List C}{arr:Array Value}{us:Array Value}{off:Nat}(hlen:off+new.length≤cs.length) 
  (h1:arr.size=cs.length∧∀ j,j<cs.length→R (cs.getD j .junk) (arr.getD j undef)∧(arr.getD j undef).oneCell'=true)
  (h2:us.size=new.length∧∀ j,j<new.length→R (new.getD j .junk) (us.getD j undef)∧(us.getD j undef).oneCell'=true) :
  (spliceA arr off us.toList).size=(splice cs off new).length∧∀ j,j<(splice cs off new).length→R ((splice cs off new).getD j .junk) ((spliceA arr off us.toList).getD j undef)∧((spliceA arr off us.toList).getD j undef).oneCell'=true:=by
 have hul:us.toList.length=new.length:=by simp [h2.1]
 refine ⟨by rw [spliceA_size _ _ _ (by rw [hul,h1.1];exact hlen),splice_length _ _ _ hlen,h1.1],fun j hj=>?_⟩
 rw [splice_length _ _ _ hlen] at hj
 rw [splice_getD _ _ _ _ hlen,spliceA_getD _ _ _ _ (by rw [hul,h1.1];exact hlen),hul]
 by_cases hjj:off≤j∧j<off+new.length
 ·rw [if_pos hjj,if_pos hjj]
  have:=h2.2 (j - off) (by omega)
  have e:us.toList.getD (j - off) undef=us.getD (j - off) undef:=by
   simp [gE]
  rw [e]
  exact this
 ·rw [if_neg hjj,if_neg hjj]
  exact h1.2 j hj
theorem run_storeVar_at{t:TypeId}{b off:Nat}{arr:Array Value}{T:TypeId}{u:Value}(ht:0<sizeT P t)(hb:w.heap[b]?=some (.cells arr T (0,0)))(hu:u.cells.size=sizeT P t) 
  (h1:∀ v∈u.cells.toList,v.oneCell'=true) (hoff:off+u.cells.size≤arr.size) :
  (storeVar t ⟨b,off,none⟩ u).run P w=.ok () (w.setRow b (spliceA arr off u.cells.toList)):=by
 have hst:=run_storeCells_at P b off T u.cells.toList 0 arr w hb (by simpa using hoff) h1
 simp only [Nat.add_zero] at hst
 unfold storeVar
 rw [Sem.run_bind,run_sizeOf ht]
 simp only [Result.andThen_ok,hu,ne_eq,not_true_eq_false,if_false]
 exact hst
theorem oneCells_of{R:C→Value→Prop}{cs:List C}{arr:Array Value}(h:arr.size=cs.length∧∀ j,j<cs.length→R (cs.getD j .junk) (arr.getD j undef)∧(arr.getD j undef).oneCell'=true):
  ∀ v∈arr.toList,v.oneCell'=true:=by
 intro v hv
 obtain ⟨j,hj,rfl⟩:=List.getElem_of_mem hv
 have hj':j<arr.size:=by simpa using hj
 have:=(h.2 j (by rw [← h.1];exact hj')).2
 simpa [hj'] using this
theorem done_store{o:Oper}{a:Act}{t:TypeId}{x y:Operand}{b off:Nat}{arr:Array Value}{T:TypeId}{m':List (Option MO)}(ho:o.op=.store t x y)(hx:a.eval x=.pointer (some ⟨b,off,none⟩)) 
  (ht:0<sizeT P t) (hb:w.heap[b]?=some (.cells arr T (0,0))) (hu:(a.eval y).cells.size=sizeT P t) (h1:∀ v∈(a.eval y).cells.toList,v.oneCell'=true) (hoff:off+(a.eval y).cells.size≤arr.size)
  (hE:∃ E',E.Le E'∧Core B E' m' (w.setRow b (spliceA arr off (a.eval y).cells.toList))):Done P B E m' (.tup []) o a w:=by
 obtain ⟨E',hle,hc'⟩:=hE
 intro next Q h
 refine wpIn_of (by intro c hc;rw [ho] at hc;cases hc) ?_
 have hrun:(execOp a.eval o).run P w=.ok .skip (w.setRow b (spliceA arr off (a.eval y).cells.toList)):=by
  simp only [execOp,ho,hx,Instr.storeAt,Instr.sureAddr,Sem.run_bind,Sem.run_pure,Result.andThen_ok,run_storeVar_at ht hb hu h1 hoff]
 rw [hrun]
 exact h undef _ E' hle hc' ⟨#[],rfl,rfl,fun j hj=>by simp at hj⟩
theorem Core.storeRow{n g cap e sz i:Nat}{css:List (List C)}{new:List C}{us:Array Value}{hd:Value}{off:Nat}{arr:Array Value}(hc:Core B E m w)(hm:m[n]?=some (some (.row e sz css))) 
  (hrw:E.rw n=some (hd,css.length)) (hhd:hd=.slice (some ⟨g,0,none⟩) css.length cap) (hb:w.heap[g]?=some (.cells arr e (0,0))) (hi:i<css.length) (hoff:off+new.length≤sz) (hnew:RelLK E.K new us) :
  Core B E (m.set n (some (.row e sz (css.set i (splice (css.getD i []) off new))))) (w.setRow g (spliceA arr (i*sz+off) us.toList)):=by
 have hholds:E.holds n g:=.inr (.inr ⟨hd,_,hrw,by rw [hhd];rfl⟩)
 obtain ⟨hcn,hmn⟩:=hc.noCel hrw
 have hM:=hc.mem n _ hm
 obtain ⟨arr2,hg2,hsz2,hcap2,hcl2,hcm2,hrel2⟩:=row_cells hM hrw hhd
 rw [hb] at hg2
 cases hg2
 obtain ⟨hszp,hlens,_,_,_,_,_⟩:=hM
 have hci:(css.getD i []).length=sz:=hlens _ (by
  simp only [gE,List.getElem?_eq_getElem hi,Option.getD_some]
  exact List.getElem_mem hi)
 have hmul:(i+1)*sz≤css.length*sz:=Nat.mul_le_mul_right _ hi
 rw [Nat.add_mul,Nat.one_mul] at hmul
 have hul:us.toList.length=new.length:=by simp [hnew.1]
 have hfit:i*sz+off+us.toList.length≤arr.size:=by omega
 have hsl:(splice (css.getD i []) off new).length=sz:=by rw [splice_length _ _ _ (by omega),hci]
 have hlens':∀ c,c∈css.set i (splice (css.getD i []) off new)→c.length=sz:=by
  intro c hcm
  rcases List.mem_or_eq_of_mem_set hcm with h | h
  ·exact hlens c h
  ·rw [h];exact hsl
 refine hc.step ⟨_,hm⟩ (Env.Le.refl E) rfl (fun _ _=>⟨rfl,rfl,rfl⟩) (fun b h=>?_) (fun x h=>rfl) (fun b h=>?_) ?_ (fun b' h=>⟨.inr h,by rw [size_setRow];exact hc.lt n b' h⟩) (by rw [size_setRow];exact Nat.le_refl _) rfl rfl rfl
  (fun b' hb' hh=>setRow_other w g b' _ (fun e=>hh (by rw [e];exact hholds)))
 ·rw [hcn] at h;cases h
 ·rw [hmn] at h;cases h
 ·
    refine ⟨hszp,hlens',hd,(spliceA arr (i*sz+off) us.toList).toList.take (css.length*sz),by rw [List.length_set];exact hrw,?_,?_⟩
    ·rw [List.length_set]
     refine ⟨by simp [spliceA_size _ _ _ hfit];omega,.inr ⟨g,cap,_,hhd,Nat.zero_le _,setRow_heap w g arr _ e (0,0) hb,hcl2,hcm2,by rw [spliceA_size _ _ _ hfit];exact hcap2,rfl⟩⟩
    ·have hfl:=flatten_length _ sz hlens'
     rw [List.length_set] at hfl
     refine ⟨by rw [hfl];simp only [List.size_toArray,List.length_take,Array.length_toList,spliceA_size _ _ _ hfit];omega,fun j hj=>?_⟩
     rw [hfl] at hj
     have hjd:j / sz<css.length:=(Nat.div_lt_iff_lt_mul hszp).2 hj
     have hjm:j % sz<sz:=Nat.mod_lt _ hszp
     have hje:j / sz*sz+j % sz=j:=by rw [Nat.mul_comm];exact Nat.div_add_mod j sz
     have hL:(css.set i (splice (css.getD i []) off new)).flatten.getD j .junk=((css.set i (splice (css.getD i []) off new)).getD (j / sz) []).getD (j % sz) .junk:=by
      have:=flatten_getD _ sz hlens' (j / sz) (j % sz) (by rw [List.length_set];exact hjd) hjm
      rwa [hje] at this
     have hR:((spliceA arr (i*sz+off) us.toList).toList.take (css.length*sz)).toArray.getD j undef=(spliceA arr (i*sz+off) us.toList).getD j undef:=by
      rw [getElem?_toArray_getD]
      simp only [gE,List.getElem?_take,if_pos hj]
      simp
     rw [hL,hR,spliceA_getD _ _ _ _ hfit,hul]
     by_cases hji:j / sz=i
     ·have hset:(css.set i (splice (css.getD i []) off new)).getD (j / sz) []=splice (css.getD i []) off new:=by
       rw [hji]
       simp [gE,hi]
      rw [hset,splice_getD _ _ _ _ (by omega)]
      have hjeq:j=i*sz+j % sz:=by rw [← hji];omega
      by_cases hin:off≤j % sz∧j % sz<off+new.length
      ·rw [if_pos hin,if_pos (by omega)]
       have:=hnew.2 (j % sz - off) (by omega)
       have e:us.toList.getD (j - (i*sz+off)) undef=us.getD (j % sz - off) undef:=by
        have:j - (i*sz+off)=j % sz - off:=by omega
        rw [this]
        simp [gE]
       rw [e]
       exact this
      ·rw [if_neg hin,if_neg (by omega)]
       have:=hrel2 i (j % sz) hi hjm
       rwa [← hjeq] at this
     ·have hset:(css.set i (splice (css.getD i []) off new)).getD (j / sz) []=css.getD (j / sz) []:=by
       simp only [gE,List.getElem?_set]
       rw [if_neg (fun e=>hji e.symm)]
      rw [hset]
      have hnot:¬(i*sz+off≤j∧j<i*sz+off+new.length):=by
       intro hh
       apply hji
       have hlo:i*sz≤j:=by omega
       have hhi:j<(i+1)*sz:=by rw [Nat.add_mul];omega
       have h1:j / sz<i+1:=(Nat.div_lt_iff_lt_mul hszp).2 hhi
       have h2:i≤j / sz:=(Nat.le_div_iff_mul_le hszp).2 hlo
       omega
      rw [if_neg hnot]
      have:=hrel2 (j / sz) (j % sz) hjd hjm
      rwa [hje] at this
theorem store_sound{o:Oper}{a:Act}{t:TypeId}{x y:Operand}{vs:List SB}{r:SB}{ms':List (Option (Option MO))}{q:List Prop}(hc:Core B E m w)(ho:o.op=.store t x y) 
  (hv:Vals E a.eval [x,y] vs) (hact:actStore P t vs ((Op.names o.op o.dst vs).map (getM m))=some (r,ms',q)) (hq:allP q):Done P B E (putM m (Op.names o.op o.dst vs) ms') r o a w:=by
 obtain ⟨v1,v2,rfl⟩:∃ v1 v2,vs=[v1,v2]:=by
  match vs,hv.1 with
  | [v1,v2],_=>exact ⟨v1,v2,rfl⟩
 obtain ⟨hx,hy⟩:=hv.two
 rw [ho] at hact ⊢
 unfold actStore at hact
 split at hact
 ·rename_i n off z heq
  cases heq
  simp only [Op.names,List.map_cons,List.map_nil] at hact ⊢
  have hzl:=cvCells_rel hy
  split at hact
  ·rename_i cs hm
   obtain ⟨hck,hact⟩:=ck_some hact
   cases hact
   obtain ⟨⟨hq1,hty⟩,hq2⟩:=ckStore_spec hck
   have hm':m[n]?=some (some (.cells cs)):=by simpa [getM] using hm
   obtain ⟨b,arr,T,hb,hh,hrel⟩:=hc.cells hm'
   have hu:=relP_at (relSB_c hx) hb
   have hsz:(a.eval y).cells.size=(cvCells z).length:=hzl.1
   refine done_store ho hu (tyOk_pos hty) hh (by omega) (oneCells_of hzl) (by have:=hrel.1;omega) ⟨E,Env.Le.refl E,?_⟩
   refine hc.store hm' hb hh (newCells_ok (fun hi=>?_) ?_)
   ·exact splice_relG (by omega) hrel (cvCells_relK hi hy)
   ·exact splice_relG (by omega) hrel.relL hzl
  ·rename_i cs hm
   obtain ⟨hck,hact⟩:=ck_some hact
   cases hact
   obtain ⟨⟨hq1,hty⟩,hq2⟩:=ckStore_spec hck
   have hm':m[n]?=some (some (.pcells cs)):=by simpa [getM] using hm
   obtain ⟨b,arr,T,hb,hh,hrel⟩:=hc.pcells hm'
   have hu:=relP_at (relSB_c hx) hb
   have hsz:(a.eval y).cells.size=(cvCells z).length:=hzl.1
   refine done_store ho hu (tyOk_pos hty) hh (by omega) (oneCells_of hzl) (by have:=hrel.1;omega) ⟨E,Env.Le.refl E,?_⟩
   exact hc.store hm' hb hh ⟨_,.inr ⟨rfl,splice_relG (by omega) hrel hzl⟩⟩
  ·cases hact
 ·rename_i n k sz i off z heq
  cases heq
  simp only [Op.names,List.map_cons,List.map_nil] at hact ⊢
  split at hact
  ·rename_i e sz' css hm himm
   obtain ⟨hck,hact⟩:=ck_some hact
   cases hact
   obtain ⟨hk,hik⟩:=hq
   simp only [Bool.and_eq_true] at hck
   obtain ⟨⟨hq1,hty⟩,hq2⟩:=ckStore_spec hck.2
   have hse:=Nat.eq_of_beq_eq_true hck.1
   subst hse
   have hzl:=cvCells_relK himm hy
   have hm':m[n]?=some (some (.row e sz css)):=by simpa [getM] using hm
   obtain ⟨hd,len,hrw,hle,himp⟩:∃ hd len,E.rw n=some (hd,len)∧k≤len∧(k=len→∃ g cap,hd=.slice (some ⟨g,0,none⟩) k cap∧a.eval x=.pointer (some ⟨g,i*sz+off,none⟩)):=relSB_c hx
   have hM:=hc.row hm'
   have hlen:len=css.length:=by
    obtain ⟨_,_,hd',xs,hrw',_⟩:=hM
    rw [hrw] at hrw'
    cases hrw'
    rfl
   obtain ⟨g,cap,hhd,hu⟩:=himp (by omega)
   subst hk
   subst hlen
   obtain ⟨arr,hg,hsz,hcap,hcl,hcm,hrel⟩:=row_cells hM hrw hhd
   have hszu:(a.eval y).cells.size=(cvCells z).length:=hzl.1
   have hmul:(i+1)*sz≤css.length*sz:=Nat.mul_le_mul_right _ hik
   rw [Nat.add_mul] at hmul
   refine done_store ho hu (tyOk_pos hty) hg (by omega) (oneCells_of hzl) (by omega) ⟨E,Env.Le.refl E,?_⟩
   exact hc.storeRow hm' hrw hhd hg hik (by omega) hzl
  ·cases hact
 ·cases hact
end Go.Sym
