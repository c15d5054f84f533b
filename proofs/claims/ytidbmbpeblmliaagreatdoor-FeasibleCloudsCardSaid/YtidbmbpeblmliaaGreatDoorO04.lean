/- Part of the proof of the statement that the claim's last text names: contracts of functions and laws of the symbolic layer. -/
import Derived.Laws.MakeOwn
import Derived.Laws.AppendOwn
import Derived.Lib.ConvBytes
import Derived.Test.YtidbmbpeblmliaaGreatDoorO03
set_option linter.unusedVariables false
set_option linter.unusedSimpArgs false
namespace Go.Sym
open Go.RowKit
variable {P:Program} {B:Base P} {E:Env} {m:List (Option MO)} {w:World}
theorem chunks_length(sz len:Nat)(cs:List C):(chunks sz len cs).length=len:=by simp [chunks]
theorem chunks_get{sz len:Nat}{cs:List C}{i:Nat}(hi:i<len):(chunks sz len cs).getD i []=sub cs (i*sz) sz:=by
 simp [chunks,gE,hi]
theorem chunks_len{sz len:Nat}{cs:List C}(h:cs.length=len*sz):∀ c,c∈chunks sz len cs→c.length=sz:=by
 intro c hc
 simp only [chunks,List.mem_map,List.mem_range] at hc
 obtain ⟨i,hi,rfl⟩:=hc
 refine length_sub _ _ _ ?_
 have:(i+1)*sz≤len*sz:=Nat.mul_le_mul_right _ hi
 rw [Nat.add_mul,Nat.one_mul] at this
 omega
theorem rel_flat{K:Know}{css:List (List C)}{sz:Nat}{arr:Array Value}(hsz:0<sz)(hl:∀ c,c∈css→c.length=sz)(hs:arr.size=css.length*sz) 
  (hr:∀ i j,i<css.length→j<sz→RelK K ((css.getD i []).getD j .junk) (arr.getD (i*sz+j) undef)∧(arr.getD (i*sz+j) undef).oneCell'=true):RelLK K css.flatten arr:=by
 refine ⟨by rw [flatten_length _ _ hl];exact hs,fun j hj=>?_⟩
 rw [flatten_length _ _ hl] at hj
 have h1:j / sz<css.length:=(Nat.div_lt_iff_lt_mul hsz).2 hj
 have h2:j % sz<sz:=Nat.mod_lt _ hsz
 have he:j / sz*sz+j % sz=j:=by rw [Nat.mul_comm];exact Nat.div_add_mod j sz
 have:=hr (j / sz) (j % sz) h1 h2
 rw [he] at this
 have hL:=flatten_getD css sz hl (j / sz) (j % sz) h1 h2
 rw [he] at hL
 rw [hL]
 exact this
theorem rel_chunks{K:Know}{sz len:Nat}{cs:List C}{arr:Array Value}(h:RelLK K cs arr)(hlen:cs.length=len*sz):
  ∀ i j,i<len→j<sz→RelK K (((chunks sz len cs).getD i []).getD j .junk) (arr.getD (i*sz+j) undef)∧(arr.getD (i*sz+j) undef).oneCell'=true:=by
 intro i j hi hj
 rw [chunks_get hi,getD_sub _ _ _ _ hj]
 have:(i+1)*sz≤len*sz:=Nat.mul_le_mul_right _ hi
 rw [Nat.add_mul,Nat.one_mul] at this
 exact h.2 (i*sz+j) (by omega)
theorem relK_lst_of{K:Know}{sz n g cap:Nat}{f:Nat→List C}{arr:Array Value}{T:TypeId}{fz:Nat×Nat}(hK:K g=some (.cells arr T fz))(hl:∀ i,i<n→(f i).length=sz)(hs:n*sz≤arr.size)(hcap:n≤cap)(hmx:n≤maxLen) 
  (hr:∀ i j,i<n→j<sz→RelK K ((f i).getD j .junk) (arr.getD (i*sz+j) undef)∧(arr.getD (i*sz+j) undef).oneCell'=true):RelK K (.lst sz n f) (.slice (some ⟨g,0,none⟩) n cap):=by
 refine .lst sz n f g 0 cap arr T fz (fun i j=>arr.getD (i*sz+j) undef) hK (fun i j hi hj=>?_) hl (fun i j hi hj=>(hr i j hi hj).1) (fun i j hi hj=>(hr i j hi hj).2) hcap hmx
 have:(i+1)*sz≤n*sz:=Nat.mul_le_mul_right _ hi
 rw [Nat.add_mul,Nat.one_mul] at this
 have hlt:i*sz+j<arr.size:=by omega
 simp [hlt]
theorem run_buildSlice{t e:TypeId}{len:Nat}{parts:Array (Nat×Value)}{z:Value}{arr:Array Value}(ht:P.underlying t=some (.slice e))(hz:zeroT P e=some z)(hsz:0<sizeT P e)(hle:len*sizeT P e≤16777216) 
  (hf:Instr.fill (fun i=>some (i*sizeT P e,sizeT P e)) ((Array.range (len*sizeT P e)).map (fun j=>z.cells[j % z.cells.size]!)) parts.toList=some arr) :
  (Instr.buildSlice t len parts).run P w=.ok (.slice (some ⟨w.heap.size,0,none⟩) len len) (w.alloc (.cells arr e)):=by
 unfold Instr.buildSlice
 rw [Sem.run_bind,run_underlying ht]
 simp only [Result.andThen_ok]
 rw [Sem.run_bind,run_sizeOf hsz]
 simp only [Result.andThen_ok]
 rw [if_neg (by omega)]
 by_cases h0:len*sizeT P e=0
 ·rw [h0] at hf
  have hr0:Array.range 0=#[]:=rfl
  simp only [hr0,Array.map_empty] at hf
  simp only [h0,if_true,Sem.run_bind,Sem.run_pure,Result.andThen_ok,hr0,Array.map_empty,hf,newRow,run_newObj,World.alloc_eq]
 ·simp only [if_neg h0,Sem.run_bind,run_zeroValue hz,Sem.run_pure,Result.andThen_ok,hf,newRow,run_newObj,World.alloc_eq]
theorem start_cells{K:Know}{z:Value}{len:Nat}(h:z.cells.all Value.oneCell'=true)(hpos:0<z.cells.size):
  RelLK K (List.replicate len (z.cells.toList.map valC)).flatten ((Array.range (len*z.cells.size)).map (fun j=>z.cells[j % z.cells.size]!)):=by
 have hz:=zero_cells (E:={ K:=K,cel:=fun _=>none,rw:=fun _=>none,mp:=fun _=>none,c:={ w0:=default,K0:=K,ds:=[],l:=0,i:=0,xs:=[],k:=0,fix:=fun _=>undef } }) h
 refine rel_flat (sz:=z.cells.size) hpos (fun c hc=>?_) (by simp) (fun i j hi hj=>?_)
 ·rw [(List.mem_replicate.1 hc).2];simp
 ·simp only [List.length_replicate] at hi
  have e1:((List.replicate len (z.cells.toList.map valC)).getD i [])=z.cells.toList.map valC:=by simp [gE,hi]
  have hlt:i*z.cells.size+j<len*z.cells.size:=by
   have:(i+1)*z.cells.size≤len*z.cells.size:=Nat.mul_le_mul_right _ hi
   rw [Nat.add_mul,Nat.one_mul] at this
   omega
  have e2:((Array.range (len*z.cells.size)).map (fun j=>z.cells[j % z.cells.size]!)).getD (i*z.cells.size+j) undef=z.cells.getD j undef:=by
   have hm:(i*z.cells.size+j) % z.cells.size=j:=by rw [Nat.mul_comm,Nat.mul_add_mod];exact Nat.mod_eq_of_lt hj
   simp [hlt,hm,hj]
  rw [e1,e2]
  exact hz.2 j (by simpa using hj)
theorem Core.allocRow{n e sz len:Nat}{css:List (List C)}{arr:Array Value}(hc:Core B E m w)(hm:m[n]?=some none)(hsz:0<sz)(hl:∀ c,c∈css→c.length=sz)(hlen:css.length=len)(hmax:len≤maxLen)(hs:arr.size=len*sz) 
  (hr:RelLK E.K css.flatten arr) :
  ∃ E',E.Le E'∧E'.rw n=some (.slice (some ⟨w.heap.size,0,none⟩) len len,len)∧Core B E' (m.set n (some (.row e sz css))) (w.alloc (.cells arr e)):=by
 obtain ⟨hcn,hrn,hmn⟩:=hc.nothing hm
 subst hlen
 let E':Env:={ E with rw:=fun k=>if k=n then some (.slice (some ⟨w.heap.size,0,none⟩) css.length css.length,css.length) else E.rw k }
 have hrw:E'.rw n=some (.slice (some ⟨w.heap.size,0,none⟩) css.length css.length,css.length):=if_pos rfl
 have hle:E.Le E':=⟨Know.le_refl _,fun _ _ h=>h,fun _ _ h=>h,rfl,fun r hd k h=>by
   refine ⟨hd,k,?_,Nat.le_refl _,fun _=>rfl⟩
   show (if r=n then _ else E.rw r)=_
   by_cases hk:r=n
   ·subst hk;rw [hrn] at h;cases h
   ·rw [if_neg hk];exact h⟩
 refine ⟨E',hle,hrw,hc.step ⟨_,hm⟩ hle rfl (fun k hk=>⟨rfl,if_neg hk,rfl⟩) (fun b h=>?_) (fun x h=>rfl) (fun b h=>?_) ?_ (fun b' h=>?_) (by rw [World.size_alloc];omega) rfl rfl rfl (fun b' hb' hh=>heapOld w _ b' hb')⟩
 ·rw [show E'.cel n=E.cel n from rfl,hcn] at h;cases h
 ·rw [show E'.mp n=E.mp n from rfl,hmn] at h;cases h
 ·refine ⟨hsz,hl,_,arr.toList,hrw,⟨by simp [hs],.inr ⟨w.heap.size,css.length,arr,rfl,Nat.zero_le _,heap_alloc_new w _,Nat.le_refl _,hmax,hs,?_⟩⟩,by simpa using hr⟩
  rw [← hs];exact List.take_of_length_le (by simp)
 ·rcases h with h | h | ⟨hd,k,h,h'⟩
  ·rw [show E'.cel n=E.cel n from rfl,hcn] at h;cases h
  ·rw [show E'.mp n=E.mp n from rfl,hmn] at h;cases h
  ·rw [hrw] at h
   cases h
   simp only [Value.ownBlock,Option.some.injEq] at h'
   subst h'
   exact ⟨.inl (Nat.le_refl _),by rw [World.size_alloc];omega⟩
theorem Core.allocRowC{n e sz len cap:Nat}{css:List (List C)}{arr:Array Value}(hc:Core B E m w)(hm:m[n]?=some none)(hsz:0<sz)(hl:∀ c,c∈css→c.length=sz)(hlen:css.length=len)(hlc:len≤cap)(hmax:cap≤maxLen)(hs:arr.size=cap*sz) 
  (hr:RelLK E.K css.flatten (arr.toList.take (len*sz)).toArray) :
  ∃ E',E.Le E'∧E'.rw n=some (.slice (some ⟨w.heap.size,0,none⟩) len cap,len)∧Core B E' (m.set n (some (.row e sz css))) (w.alloc (.cells arr e)):=by
 obtain ⟨hcn,hrn,hmn⟩:=hc.nothing hm
 subst hlen
 let E':Env:={ E with rw:=fun k=>if k=n then some (.slice (some ⟨w.heap.size,0,none⟩) css.length cap,css.length) else E.rw k }
 have hrw:E'.rw n=some (.slice (some ⟨w.heap.size,0,none⟩) css.length cap,css.length):=if_pos rfl
 have hle:E.Le E':=⟨Know.le_refl _,fun _ _ h=>h,fun _ _ h=>h,rfl,fun r hd k h=>by
   refine ⟨hd,k,?_,Nat.le_refl _,fun _=>rfl⟩
   show (if r=n then _ else E.rw r)=_
   by_cases hk:r=n
   ·subst hk;rw [hrn] at h;cases h
   ·rw [if_neg hk];exact h⟩
 have hcs:css.length*sz≤cap*sz:=Nat.mul_le_mul_right _ hlc
 refine ⟨E',hle,hrw,hc.step ⟨_,hm⟩ hle rfl (fun k hk=>⟨rfl,if_neg hk,rfl⟩) (fun b h=>?_) (fun x h=>rfl) (fun b h=>?_) ?_ (fun b' h=>?_) (by rw [World.size_alloc];omega) rfl rfl rfl (fun b' hb' hh=>heapOld w _ b' hb')⟩
 ·rw [show E'.cel n=E.cel n from rfl,hcn] at h;cases h
 ·rw [show E'.mp n=E.mp n from rfl,hmn] at h;cases h
 ·refine ⟨hsz,hl,_,arr.toList.take (css.length*sz),hrw,⟨by rw [List.length_take];exact Nat.min_eq_left (by rw [show arr.toList.length=arr.size from rfl,hs];exact hcs),.inr ⟨w.heap.size,cap,arr,rfl,Nat.zero_le _,heap_alloc_new w _,hlc,hmax,hs,rfl⟩⟩,hr⟩
 ·rcases h with h | h | ⟨hd,k,h,h'⟩
  ·rw [show E'.cel n=E.cel n from rfl,hcn] at h;cases h
  ·rw [show E'.mp n=E.mp n from rfl,hmn] at h;cases h
  ·rw [hrw] at h
   cases h
   simp only [Value.ownBlock,Option.some.injEq] at h'
   subst h'
   exact ⟨.inl (Nat.le_refl _),by rw [World.size_alloc];omega⟩
theorem Core.allocK(hc:Core B E m w)(o:Obj):∃ E',E.Le E'∧E'.K w.heap.size=some o∧Core B E' m (w.alloc o):=by
 let K':Know:=fun b=>if b=w.heap.size then some o else E.K b
 have hnone:E.K w.heap.size=none:=by
  cases h:E.K w.heap.size with
  | none=>rfl
  | some x=>have:=(Array.getElem?_eq_some_iff.1 (hc.know _ x h)).1;omega
 have hle:E.K.le K':=fun b x h=>by
  show (if b=w.heap.size then _ else _)=_
  rw [if_neg]
  ·exact h
  ·intro e;rw [e,hnone] at h;cases h
 obtain ⟨h1,h2⟩:=hc.called (K':=K') (w':=w.alloc o) hle (fun b hb hn=>by
  show (if b=w.heap.size then _ else _)=_
  rw [if_neg (by omega)];exact hn) (fun b x h=>by
   change (if b=w.heap.size then some o else E.K b)=some x at h
   by_cases hb:b=w.heap.size
   ·rw [if_pos hb] at h
    cases h
    rw [hb];exact heap_alloc_new w _
   ·rw [if_neg hb] at h
    have h3:=hc.know b x h
    have:=(Array.getElem?_eq_some_iff.1 h3).1
    rw [heapOld w _ b this];exact h3) ⟨rfl,rfl,rfl,by rw [World.size_alloc];omega,fun b hb=>heapOld w _ b hb⟩
 exact ⟨_,h1,if_pos rfl,h2⟩
theorem bytes_sound{o:Oper}{a:Act}{src t:TypeId}{x:Operand}{s:ByteArray}{r:SB}{ms ms':List (Option (Option MO))}{q:List Prop}(hc:Core B E m w)(ho:o.op=.convert src t x) 
  (hv:Vals E a.eval [x] [.v (.c (.str s))]) (hact:actBytes P src t s ms=some (r,ms',q)):Done P B E m r o a w:=by
 obtain ⟨v,heq,hx⟩:=vals1 hv
 cases heq
 have e1:=relSB_str hx
 have hsz:s.size≤maxLen:=by
  have h:RelK E.K (.str s) (a.eval x):=relSB_c hx
  generalize a.eval x=u at h
  cases h;assumption
 unfold actBytes at hact
 split at hact
 case h_2=>cases hact
 rename_i u e hs hd
 split at hact
 case h_2=>cases hact
 rename_i he
 cases hact
 have hrun:=Lib.run_convert_string_bytes (P:=P) w src t e s hs hd he
 let ob:Obj:=.cells (Lib.bytesCells w e s) e ((Lib.bytesCells w e s).size,(Lib.bytesCells w e s).size+1)
 let K':Know:=fun b=>if b=w.heap.size then some ob else E.K b
 have hnone:E.K w.heap.size=none:=by
  cases h:E.K w.heap.size with
  | none=>rfl
  | some x=>have:=(Array.getElem?_eq_some_iff.1 (hc.know _ x h)).1;omega
 have hle:E.K.le K':=fun b x h=>by
  show (if b=w.heap.size then _ else _)=_
  rw [if_neg]
  ·exact h
  ·intro e;rw [e,hnone] at h;cases h
 have hold:=fun b hb=>Lib.bytesWorld_at_old w e s b hb
 obtain ⟨h1,h2⟩:=hc.called (K':=K') (w':=Lib.bytesWorld w e s) hle (fun b hb hn=>by
  show (if b=w.heap.size then _ else _)=_
  rw [if_neg (by omega)];exact hn) (fun b x h=>by
   change (if b=w.heap.size then some ob else E.K b)=some x at h
   by_cases hb:b=w.heap.size
   ·rw [if_pos hb] at h
    cases h
    rw [hb];exact Lib.bytesWorld_at_new w e s
   ·rw [if_neg hb] at h
    have h3:=hc.know b x h
    have:=(Array.getElem?_eq_some_iff.1 h3).1
    rw [hold b this];exact h3) ⟨rfl,rfl,rfl,by rw [Lib.bytesWorld_size];omega,hold⟩
 intro next Q hn
 refine wpIn_of (by intro c hc;rw [ho] at hc;cases hc) ?_
 have hr:(execOp a.eval o).run P w=.ok (.value (.slice (some ⟨w.heap.size,0,none⟩) s.size (grownCap w s.size 0 e))) (Lib.bytesWorld w e s):=by
  simp only [execOp,ho,e1,Sem.run_bind,hrun,Result.andThen_ok,Sem.run_pure]
 rw [hr]
 have hg:=grownCap_ge w s.size 0 e
 have hcs:(Lib.bytesCells w e s).size=s.size+(grownCap w s.size 0 e - s.size):=by
  simp only [Lib.bytesCells,Array.size_append,Array.size_map,Array.size_replicate];rfl
 refine hn _ _ _ h1 h2 ⟨relK_lst_of (K:=K') (arr:=Lib.bytesCells w e s) (T:=e) (fz:=((Lib.bytesCells w e s).size,(Lib.bytesCells w e s).size+1)) (if_pos rfl) (fun i hi=>rfl) (by omega) hg hsz (fun i j hi hj=>?_),rfl⟩
 have hj:j=0:=by omega
 subst hj
 have:(Lib.bytesCells w e s).getD (i*1+0) undef=.int .u8 (((s[i]?).getD 0).toNat:Int):=by
  have hi':i<s.data.size:=hi
  have hb:s[i]?=some s.data[i]:=by
   rw [getElem?_pos s i hi];rfl
  rw [hb]
  simp [Lib.bytesCells,Array.getElem?_append,hi]
 rw [this]
 exact ⟨RelK.int _ _,rfl⟩
theorem buildSlice_sound{o:Oper}{a:Act}{t:TypeId}{len:Nat}{ps:Array (Nat×Operand)}{vs:List SB}{r:SB}{ms':List (Option (Option MO))}{q:List Prop}{h:Hint}(hc:Core B E m w)(ho:o.op=.buildSlice t len ps) 
  (hv:Vals E a.eval (ps.toList.map (·.2)) vs) (hact:actBuildSlice P t len ps.toList o.dst vs ((Op.names o.op o.dst vs).map (getM m)) h=some (r,ms',q)) (hq:allP q) :
  Done P B E (if Op.wr o.op h then putM m (Op.names o.op o.dst vs) ms' else m) r o a w:=by
 unfold actBuildSlice at hact
 rw [ho] at hact ⊢
 split at hact
 case h_2=>cases hact
 rename_i e hu
 split at hact
 case h_2=>cases hact
 rename_i parts z hz hzt
 obtain ⟨hck,hact⟩:=ck_some hact
 simp only [Bool.and_eq_true] at hck
 obtain ⟨⟨hrow,hmax⟩,himm⟩:=hck
 obtain ⟨hzs,hpos,hone⟩:=ckRow_spec hrow
 have hmax:len*sizeT P e≤16777216:=by simpa using hmax
 split at hact
 case h_2=>cases hact
 rename_i cs hfill
 obtain ⟨hlen,hrel⟩:=zipParts_rel hz hv
 have hstart:=start_cells (K:=E.K) (len:=len) hone (by omega)
 obtain ⟨arr,hf,hr⟩:=fill_imm hfill hlen himm hrel hstart
 rw [hzs] at hf
 have hps:(ps.map fun (p:Nat×Operand)=>(p.1,a.eval p.2)).toList=ps.toList.map fun p=>(p.1,a.eval p.2):=by simp
 have hrun:(execOp a.eval o).run P w=.ok (.value (.slice (some ⟨w.heap.size,0,none⟩) len len)) (w.alloc (.cells arr e)):=by
  simp only [execOp,ho,Sem.run_bind,run_buildSlice (w:=w) (parts:=ps.map fun (p:Nat×Operand)=>(p.1,a.eval p.2)) hu hzt hpos hmax (by rw [hps];rw [hzs];exact hf),Result.andThen_ok,Sem.run_pure]
 have hcsl:cs.length=len*sizeT P e:=by
  have:∀ {place:Nat→Option (Nat×Nat)} {parts:List (Nat×CV)} {c r:List C},fillC place c parts=some r→r.length=c.length:=by
   intro place parts
   induction parts with
   | nil=>intro c r h;simp only [fillC] at h;cases h;rfl
   | cons p parts ih =>
    intro c r h
    obtain ⟨i,v⟩:=p
    simp only [fillC] at h
    split at h
    ·cases h
    ·split at h
     ·rename_i hck
      simp only [Bool.and_eq_true,Nat.beq_eq,Nat.ble_eq] at hck
      rw [ih h,splice_length _ _ _ hck.2]
     ·cases h
  rw [this hfill,flatten_length _ (sizeT P e) (fun c hc=>by rw [(List.mem_replicate.1 hc).2];simp [hzs])]
  simp
 have hasz:arr.size=len*sizeT P e:=hr.1.trans hcsl
 have hlm:len≤maxLen:=by
  have:len≤len*sizeT P e:=Nat.le_mul_of_pos_right len hpos
  simp only [maxLen];omega
 split at hact
 ·split at hact
  ·rename_i n hd hm
   cases hact
   simp only [Op.names,hd,Option.toList_some,List.map_cons,List.map_nil] at hm ⊢
   have hmn:m[n]?=some none:=by
    have:=(List.cons.inj hm).1
    simpa [getM] using this
   obtain ⟨E',hle,hrw,hc'⟩:=hc.allocRow (e:=e) (css:=chunks (sizeT P e) len cs) hmn hpos (chunks_len hcsl) (chunks_length _ _ _) hlm hasz
    (rel_flat hpos (chunks_len hcsl) (by rw [chunks_length];exact hasz) (fun i j hi hj=>rel_chunks hr hcsl i j (by rwa [chunks_length] at hi) hj))
   intro next Q hn
   refine wpIn_of (by intro c hc;rw [ho] at hc;cases hc) ?_
   rw [hrun]
   exact hn _ _ E' hle hc' ⟨⟨_,_,hrw,Nat.le_refl _,fun _=>rfl⟩,rfl⟩
  ·cases hact
 ·rename_i n f _
  cases hact
  obtain ⟨hnl,hfe⟩:=hq
  subst hnl
  obtain ⟨E',hle,hK,hc'⟩:=hc.allocK (.cells arr e)
  intro next Q hn
  refine wpIn_of (by intro c hc;rw [ho] at hc;cases hc) ?_
  rw [hrun]
  refine hn _ _ E' hle hc' ⟨relK_lst_of hK (fun i hi=>?_) (by omega) (Nat.le_refl _) hlm (fun i j hi hj=>?_),rfl⟩
  ·rw [hfe i hi,chunks_get hi]
   exact length_sub _ _ _ (by
    have:(i+1)*sizeT P e≤n*sizeT P e:=Nat.mul_le_mul_right _ hi
    rw [Nat.add_mul,Nat.one_mul] at this
    omega)
  ·rw [hfe i hi]
   obtain ⟨g1,g2⟩:=rel_chunks hr hcsl i j hi hj
   exact ⟨g1.mono hle.K,g2⟩
 ·cases hact
theorem run_makeSlice{t e:TypeId}{z:Value}{l c:Int}(ht:P.underlying t=some (.slice e))(hz:zeroT P e=some z)(hsz:0<sizeT P e)(hz1:z.cells.size=sizeT P e)(h0:0≤l)(h1:l≤c)(h2:c*((bytesT P e:Int)+1)≤140737488355328):
  (Instr.makeSlice t (.int .i64 l) (.int .i64 c)).run P w=.ok (.slice (some ⟨w.heap.size,0,none⟩) l.toNat c.toNat) (w.alloc (.cells ((Array.range (c.toNat*z.cells.size)).map (fun j=>z.cells[j % z.cells.size]!)) e)):=by
 have hb:0≤(bytesT P e:Int):=Int.natCast_nonneg _
 have hc0:0≤c:=by omega
 have hcb:c*((bytesT P e:Int)+1)=c*(bytesT P e:Int)+c:=by rw [Int.mul_add,Int.mul_one]
 have hcb0:0≤c*(bytesT P e:Int):=Int.mul_nonneg hc0 hb
 obtain ⟨ti,hti,hsize⟩:=sizeT_info hsz
 have hby:bytesT P e=ti.bytes:=by simp [bytesT,hti]
 have hzero:ti.zero=some z:=by simpa [zeroT,hti] using hz
 have hr:=run_make (P:=P) w t e ti z ht hti hzero .i64 .i64 l c h0 h1 (by rw [← hby,Int.mul_comm];omega) (by omega)
 rw [hr,hsize,← hz1];rfl
theorem makeSlice_sound{o:Oper}{a:Act}{t:TypeId}{x y:Operand}{vs:List SB}{r:SB}{ms':List (Option (Option MO))}{q:List Prop}(hc:Core B E m w)(ho:o.op=.makeSlice t x y) 
  (hv:Vals E a.eval [x,y] vs) (hact:actMakeSlice P t o.dst vs ((Op.names o.op o.dst vs).map (getM m))=some (r,ms',q)) (hq:allP q) :
  Done P B E (putM m (Op.names o.op o.dst vs) ms') r o a w:=by
 unfold actMakeSlice at hact
 rw [ho] at hact ⊢
 split at hact
 case h_2=>cases hact
 rename_i e hu
 split at hact
 case h_2=>cases hact
 rename_i z l c hzt
 obtain ⟨hx,hy⟩:=Vals.two hv
 have e1:=relSB_int hx
 have e2:=relSB_int hy
 obtain ⟨hrow,hact⟩:=ck_some hact
 obtain ⟨hzs,hpos,hone⟩:=ckRow_spec hrow
 split at hact
 case h_2=>cases hact
 rename_i n hd hm
 cases hact
 obtain ⟨h0,h1,h2⟩:0≤l∧l≤c∧c*((bytesT P e:Int)+1)≤140737488355328:=hq
 simp only [Op.names,hd,Option.toList_some,List.map_cons,List.map_nil] at hm ⊢
 have hmn:m[n]?=some none:=by
  have:=(List.cons.inj hm).1
  simpa [getM] using this
 have hrun:(execOp a.eval o).run P w=.ok (.value (.slice (some ⟨w.heap.size,0,none⟩) l.toNat c.toNat)) (w.alloc (.cells ((Array.range (c.toNat*z.cells.size)).map (fun j=>z.cells[j % z.cells.size]!)) e)):=by
  simp only [execOp,ho,e1,e2,Sem.run_bind,run_makeSlice (w:=w) hu hzt hpos hzs h0 h1 h2,Result.andThen_ok,Sem.run_pure]
 have hcm:c.toNat≤maxLen:=by
  have hb:0≤(bytesT P e:Int):=Int.natCast_nonneg _
  have hcb:c*((bytesT P e:Int)+1)=c*(bytesT P e:Int)+c:=by rw [Int.mul_add,Int.mul_one]
  have hcb0:0≤c*(bytesT P e:Int):=Int.mul_nonneg (by omega) hb
  simp only [maxLen];omega
 have hst:=start_cells (K:=E.K) (z:=z) (len:=c.toNat) hone (by omega)
 obtain ⟨E',hle,hrw,hc'⟩:=hc.allocRowC (e:=e) (sz:=sizeT P e) (len:=l.toNat) (cap:=c.toNat) (css:=List.replicate l.toNat (z.cells.toList.map valC)) (arr:=(Array.range (c.toNat*z.cells.size)).map (fun j=>z.cells[j % z.cells.size]!)) hmn hpos
  (fun c hc=>by rw [(List.mem_replicate.1 hc).2];simp [hzs]) (by simp) (by omega) hcm (by simp [hzs]) (by
   have hl:l.toNat*sizeT P e≤c.toNat*sizeT P e:=Nat.mul_le_mul_right _ (by omega)
   have e3:(((Array.range (c.toNat*z.cells.size)).map (fun j=>z.cells[j % z.cells.size]!)).toList.take (l.toNat*sizeT P e)).toArray=(Array.range (l.toNat*z.cells.size)).map (fun j=>z.cells[j % z.cells.size]!):=by
    apply Array.ext'
    simp only [Array.toList_map,Array.toList_range]
    rw [← List.map_take,List.take_range,Nat.min_eq_left (by rw [hzs];exact hl),hzs]
   rw [e3]
   exact start_cells hone (by omega))
 intro next Q hn
 refine wpIn_of (by intro c hc;rw [ho] at hc;cases hc) ?_
 rw [hrun]
 exact hn _ _ E' hle hc' ⟨⟨_,_,hrw,Nat.le_refl _,fun _=>rfl⟩,rfl⟩
theorem makeFrz_sound{o:Oper}{a:Act}{t:TypeId}{x y:Operand}{vs:List SB}{r:SB}{ms ms':List (Option (Option MO))}{q:List Prop}{n:Nat}{f:Nat→List C}(hc:Core B E m w)(ho:o.op=.makeSlice t x y) 
  (hv:Vals E a.eval [x,y] vs) (hact:actMakeFrz P t vs ms n f=some (r,ms',q)) (hq:allP q) :
  Done P B E m r o a w:=by
 unfold actMakeFrz at hact
 split at hact
 case h_2=>cases hact
 rename_i e hu
 split at hact
 case h_2=>cases hact
 rename_i z l c hzt
 obtain ⟨hx,hy⟩:=Vals.two hv
 have e1:=relSB_int hx
 have e2:=relSB_int hy
 obtain ⟨hrow,hact⟩:=ck_some hact
 obtain ⟨hzs,hpos,hone⟩:=ckRow_spec hrow
 cases hact
 obtain ⟨⟨h0,h1,h2⟩,hn,hfe⟩:(0≤l∧l=c∧c*((bytesT P e:Int)+1)≤140737488355328)∧n=l.toNat∧∀ i,i<n→f i=(chunks (sizeT P e) n (List.replicate n (z.cells.toList.map valC)).flatten).getD i []:=hq
 subst h1
 have hrun:(execOp a.eval o).run P w=.ok (.value (.slice (some ⟨w.heap.size,0,none⟩) n n)) (w.alloc (.cells ((Array.range (n*z.cells.size)).map (fun j=>z.cells[j % z.cells.size]!)) e)):=by
  simp only [execOp,ho,e1,e2,Sem.run_bind,run_makeSlice (w:=w) hu hzt hpos hzs h0 (Int.le_refl _) h2,Result.andThen_ok,Sem.run_pure,hn]
 have hcm:n≤maxLen:=by
  have hb:0≤(bytesT P e:Int):=Int.natCast_nonneg _
  have hcb:l*((bytesT P e:Int)+1)=l*(bytesT P e:Int)+l:=by rw [Int.mul_add,Int.mul_one]
  have hcb0:0≤l*(bytesT P e:Int):=Int.mul_nonneg (by omega) hb
  simp only [maxLen];omega
 have hr:=start_cells (K:=E.K) (z:=z) (len:=n) hone (by omega)
 have hcsl:(List.replicate n (z.cells.toList.map valC)).flatten.length=n*sizeT P e:=by
  rw [flatten_length _ (sizeT P e) (fun c hc=>by rw [(List.mem_replicate.1 hc).2];simp [hzs])]
  simp
 obtain ⟨E',hle,hK,hc'⟩:=hc.allocK (.cells ((Array.range (n*z.cells.size)).map (fun j=>z.cells[j % z.cells.size]!)) e)
 intro next Q hnx
 refine wpIn_of (by intro c hc;rw [ho] at hc;cases hc) ?_
 rw [hrun]
 refine hnx _ _ E' hle hc' ⟨relK_lst_of hK (fun i hi=>?_) (by simp [hzs]) (Nat.le_refl _) hcm (fun i j hi hj=>?_),rfl⟩
 ·rw [hfe i hi,chunks_get hi]
  exact length_sub _ _ _ (by
   have:(i+1)*sizeT P e≤n*sizeT P e:=Nat.mul_le_mul_right _ hi
   rw [Nat.add_mul,Nat.one_mul] at this
   omega)
 ·rw [hfe i hi]
  obtain ⟨g1,g2⟩:=rel_chunks hr hcsl i j hi hj
  exact ⟨g1.mono hle.K,g2⟩
end Go.Sym
namespace Go.Sym
open Go.RowKit
variable {P:Program} {B:Base P} {E:Env} {m:List (Option MO)} {w:World}
theorem info_of{e:TypeId}{z:Value}(hz:zeroT P e=some z):∃ i,P.info? e=some i∧i.zero=some z∧i.size=sizeT P e∧i.bytes=bytesT P e:=by
 unfold zeroT at hz
 unfold sizeT bytesT
 cases hi:P.info? e with
 | none=>simp [hi] at hz
 | some i=>exact ⟨i,rfl,by simpa [hi] using hz,by simp,by simp⟩
theorem append_block{t ty e:TypeId}{i:TypeInfo}{z:Value}{size bytes:Nat}(ht:P.underlying t=some (.slice e))(hi:P.info? e=some i)(hz:i.zero=some z)(hsize:i.size=size)(hby:i.bytes=bytes) 
  {v:Value} {n:Nat} {xs:List Value} (hown:w.ownsRow 0 e size v n xs)
  {a:Addr} {k c:Nat} {news:List Value} (hl:news.length=k*size) (hnews:∀ j u,news[j]?=some u→w.cell? (a.add j)=some u) (h1:∀ u∈news,u.oneCell'=true)
  (h63:n+k≤maxLen) (hbytes:(n+k)*bytes≤140737488355328) {v':Value} {w':World}
  (hr:(Builtin.append_ #[t,t] ty #[v,.slice (some a) k c]).run P w=.ok v' w'):v'.ownBlock=v.ownBlock∨v'.ownBlock=some w.heap.size:=by
 subst hsize
 subst hby
 have hsmall:n+k≤9223372036854775807:=by simp only [maxLen] at h63;omega
 rcases hown.2 with ⟨rfl,rfl⟩ | ⟨g,cap,cur,rfl,hbg,hg,hnc,hcm,hcs,htake⟩
 ·by_cases hm:k=0
  ·subst hm
   have hn:news=[]:=List.eq_nil_of_length_eq_zero (by simpa using hl)
   subst hn
   have:(Builtin.append_ #[t,t] ty #[.slice none 0 0,.slice (some a) 0 c]).run P w=.ok (.slice none 0 0) w:=by
    simp [Builtin.append_,run_underlying ht,sizeOf,typeInfo,hi,Builtin.lenOf,Builtin.firstCells,loadCells,loadCellsFrom]
   rw [this] at hr
   cases hr
   exact .inl rfl
  ·have h2:=run_append_nil (P:=P) w t ty e i z ht hi hz a k c news hl hnews (by omega) (by omega) (by have hb:=hbytes;simp only [Nat.zero_add] at hb;omega)
   rw [h2] at hr
   cases hr
   exact .inr rfl
 ·by_cases hroom:n+k≤cap
  ·have hfit:n*i.size+news.length≤cur.size:=by rw [hl,hcs,← Nat.add_mul];exact Nat.mul_le_mul_right _ hroom
   have h2:=run_append_room (P:=P) w t ty e i ht hi g n cap cur hg a k c news hl hnews h1 hroom hfit
   rw [h2] at hr
   cases hr
   exact .inl rfl
  ·have holds:∀ j u,xs[j]?=some u→w.cell? ((⟨g,0,none⟩:Addr).add j)=some u:=hown.cells (g:=g) rfl
   have h2:=run_append_grow (P:=P) w t ty e i z ht hi hz ⟨g,0,none⟩ n cap xs hown.1 holds a k c news hl hnews (by omega) (by omega) (growslice_fits (by omega) hbytes)
   rw [h2] at hr
   cases hr
   exact .inr rfl
theorem run_append_none{t ty e:TypeId}{i:TypeInfo}{v:Value}{n size:Nat}{xs:List Value}(ht:P.underlying t=some (.slice e))(hi:P.info? e=some i)(hown:w.ownsRow 0 e size v n xs):
  (Builtin.append_ #[t,t] ty #[v,.slice none 0 0]).run P w=.ok v w:=by
 rcases hown.2 with ⟨rfl,rfl⟩ | ⟨g,cap,cur,rfl,hbg,hg,hnc,hcm,hcs,htake⟩
 ·simp [Builtin.append_,run_underlying ht,sizeOf,typeInfo,hi,Builtin.lenOf,Builtin.firstCells]
 ·simp [Builtin.append_,run_underlying ht,sizeOf,typeInfo,hi,Builtin.lenOf,Builtin.firstCells,hnc,storeCells]
theorem news_lst{K:Know}{sz k:Nat}{f:Nat→List C}{u:Value}(hk:Knows K w)(hsz:0<sz)(h:RelK K (.lst sz k f) u):
  (u=.slice none 0 0∧k=0)∨∃ a c,∃ news:List Value,u=.slice (some a) k c∧news.length=k*sz∧(∀ j v,news[j]?=some v→w.cell? (a.add j)=some v)∧(∀ v,v∈news→v.oneCell'=true) ∧
   (∀ i,i<k→(f i).length=sz)∧RelLK K ((List.range k).map f).flatten news.toArray:=by
 cases h with
 | lst0=>exact .inl ⟨rfl,rfl⟩
 | lst1 _ _ a=>exact .inr ⟨a,0,[],rfl,by simp,by simp,by simp,fun i hi=>by omega,by simp,by simp⟩
 | lst _ _ _ b off cap arr T fz g hK hg hl hr ho hcap hmx =>
  right
  have hdiv:∀ j,j<k*sz→j / sz<k∧j % sz<sz∧j / sz*sz+j % sz=j:=fun j hj =>
   ⟨(Nat.div_lt_iff_lt_mul hsz).2 hj,Nat.mod_lt _ hsz,by rw [Nat.mul_comm];exact Nat.div_add_mod j sz⟩
  refine ⟨⟨b,off,none⟩,cap,(List.range (k*sz)).map fun j=>g (j / sz) (j % sz),rfl,by simp,?_,?_,hl,?_⟩
  ·intro j v hj
   simp only [List.getElem?_map,Option.map_eq_some_iff] at hj
   obtain ⟨j',hj',rfl⟩:=hj
   have hlt:j<k*sz:=by
    have:=(List.getElem?_eq_some_iff.1 hj').1
    simpa using this
   have hje:j'=j:=by simpa [hlt] using hj'.symm
   subst hje
   obtain ⟨h1,h2,h3⟩:=hdiv j' hlt
   rw [Addr.add_lit]
   have hcell:=hg (j' / sz) (j' % sz) h1 h2
   rw [cell_of_row w b (off+j') arr T fz (hk _ _ hK)]
   rw [show off+j'=off+j' / sz*sz+j' % sz by omega]
   exact hcell
  ·intro v hv
   simp only [List.mem_map,List.mem_range] at hv
   obtain ⟨j,hj,rfl⟩:=hv
   obtain ⟨h1,h2,h3⟩:=hdiv j hj
   exact ho _ _ h1 h2
  ·refine rel_flat hsz (fun c hc=>?_) (by simp) (fun i j hi hj=>?_)
   ·simp only [List.mem_map,List.mem_range] at hc
    obtain ⟨i,hi,rfl⟩:=hc
    exact hl i hi
   ·simp only [List.length_map,List.length_range] at hi
    have hlt:i*sz+j<k*sz:=by
     have:(i+1)*sz≤k*sz:=Nat.mul_le_mul_right _ hi
     rw [Nat.add_mul,Nat.one_mul] at this
     omega
    have e1:((List.range k).map f).getD i []=f i:=by simp [gE,hi]
    have e2:((List.range (k*sz)).map fun j=>g (j / sz) (j % sz)).toArray.getD (i*sz+j) undef=g i j:=by
     have h1:(i*sz+j) / sz=i:=by
      rw [Nat.mul_comm,Nat.mul_add_div hsz,Nat.div_eq_of_lt hj];rfl
     have h2:(i*sz+j) % sz=j:=by
      rw [Nat.mul_comm,Nat.mul_add_mod];exact Nat.mod_eq_of_lt hj
     simp [hlt,h1,h2]
    rw [e1,e2]
    exact ⟨hr i j hi hj,ho i j hi hj⟩
theorem news_row{q e sz:Nat}{css:List (List C)}{hd:Value}(h:MRel E w q (.row e sz css))(hrw:E.rw q=some (hd,css.length)):
  (hd=.slice none 0 0∧css.length=0)∨∃ a c,∃ news:List Value,hd=.slice (some a) css.length c∧news.length=css.length*sz∧(∀ j v,news[j]?=some v→w.cell? (a.add j)=some v)∧(∀ v,v∈news→v.oneCell'=true) ∧
   RelLK E.K css.flatten news.toArray:=by
 obtain ⟨hsz,hl,hd',xs,hrw',hown,hrel⟩:=h
 rw [hrw] at hrw'
 cases hrw'
 have hone:=oneCells_of hrel
 rcases hown.2 with ⟨h0,h1⟩ | ⟨g,cap,cur,hv,hb,hg,rest⟩
 ·exact .inl ⟨h0,h1⟩
 ·exact .inr ⟨⟨g,0,none⟩,cap,xs,hv,hown.1,hown.cells (by rw [hv];rfl),by simpa using hone,hrel⟩
theorem Core.grown{n e sz k:Nat}{css news':List (List C)}{hd v':Value}{w':World}{xs news:List Value}(hc:Core B E m w)(hm:m[n]?=some (some (.row e sz css)))(hrw:E.rw n=some (hd,css.length)) 
  (_hown:w.ownsRow 0 e sz hd css.length xs) (hx:RelLK E.K css.flatten xs.toArray) (hl:∀ c,c∈news'→c.length=sz) (hk:news'.length=k) (hnew:RelLK E.K news'.flatten news.toArray)
  (h1:w'.ownsRow 0 e sz v' (css.length+k) (xs++news)) (h2:w.grownBy w' hd.ownBlock) (h3:v'.ownBlock=hd.ownBlock∨v'.ownBlock=some w.heap.size) (h0:k=0→v'=hd) :
  ∃ E',E.Le E'∧E'.K=E.K∧E'.rw n=some (v',css.length+k)∧Core B E' (m.set n (some (.row e sz (css++news')))) w':=by
 obtain ⟨hcn,hmn⟩:=hc.noCel hrw
 obtain ⟨hszp,hlens,_⟩:=hc.row hm
 subst hk
 let E':Env:={ E with rw:=fun j=>if j=n then some (v',css.length+news'.length) else E.rw j }
 have hrw':E'.rw n=some (v',css.length+news'.length):=if_pos rfl
 have hle:E.Le E':=⟨Know.le_refl _,fun _ _ h=>h,fun _ _ h=>h,rfl,fun r hd1 j h=>by
   by_cases hr:r=n
   ·subst hr
    rw [hrw] at h
    cases h
    exact ⟨v',_,hrw',by omega,fun e=>h0 (by omega)⟩
   ·exact ⟨hd1,j,(if_neg hr).trans h,Nat.le_refl _,fun _=>rfl⟩⟩
 have hholds:∀ b,hd.ownBlock=some b→E.holds n b:=fun b hb=>.inr (.inr ⟨hd,_,hrw,hb⟩)
 refine ⟨E',hle,rfl,hrw',hc.step ⟨_,hm⟩ hle rfl (fun j hj=>⟨rfl,if_neg hj,rfl⟩) (fun b h=>?_) (fun x h=>rfl) (fun b h=>?_) ?_ (fun b' h=>?_) h2.size h2.os h2.tape h2.output (fun b' hb' hh=>?_)⟩
 ·rw [show E'.cel n=E.cel n from rfl,hcn] at h;cases h
 ·rw [show E'.mp n=E.mp n from rfl,hmn] at h;cases h
 ·refine ⟨hszp,fun c hcm=>?_,v',xs++news,by rw [List.length_append];exact hrw',by rw [List.length_append];exact h1,?_⟩
  ·rcases List.mem_append.1 hcm with h | h
   ·exact hlens c h
   ·exact hl c h
  ·rw [List.flatten_append]
   have hxs:=hx.1
   refine ⟨by rw [List.length_append,← hnew.1,← hx.1];simp,fun j hj=>?_⟩
   rw [List.length_append] at hj
   rw [getElem?_toArray_getD]
   by_cases hjx:j<css.flatten.length
   ·have:=hx.2 j hjx
    rw [getElem?_toArray_getD] at this
    have hxl:j<xs.length:=by simpa using (by omega:j<xs.toArray.size)
    simp only [gE,List.getElem?_append_left hjx,List.getElem?_append_left hxl] at this ⊢
    exact this
   ·have:=hnew.2 (j - css.flatten.length) (by omega)
    rw [getElem?_toArray_getD] at this
    have hxl:xs.length=css.flatten.length:=by simpa using hx.1
    simp only [gE,List.getElem?_append_right (Nat.le_of_not_lt hjx),List.getElem?_append_right (show xs.length≤j by omega),hxl] at this ⊢
    exact this
 ·have hb:v'.ownBlock=some b':=by
   rcases h with h | h | ⟨hd1,j,h,h'⟩
   ·rw [show E'.cel n=E.cel n from rfl,hcn] at h;cases h
   ·rw [show E'.mp n=E.mp n from rfl,hmn] at h;cases h
   ·rw [hrw'] at h;cases h;exact h'
  refine ⟨?_,(h1.lt b' hb).2⟩
  rcases h3 with h3 | h3
  ·exact .inr (hholds b' (by rw [← h3];exact hb))
  ·rw [h3] at hb
   cases hb
   exact .inl (Nat.le_refl _)
 ·exact h2.block b' hb' (fun e=>hh (hholds b' e.symm))
theorem Core.frozen{n e sz:Nat}{css:List (List C)}{hd:Value}(hc:Core B E m w)(hW:∀ b,¬ B.W b)(hm:m[n]?=some (some (.row e sz css)))(hrw:E.rw n=some (hd,css.length)):
  ∃ E',E.Le E'∧(∀ k f,k=css.length→(∀ i,i<k→f i=css.getD i [])→RelK E'.K (.lst sz k f) hd)∧Core B E' (m.set n (some .gone)) w:=by
 obtain ⟨hcn,hmn⟩:=hc.noCel hrw
 have hM:=hc.row hm
 obtain ⟨hszp,hlens,hd',xs,hrw',hown,hrel⟩:=hM
 rw [hrw] at hrw'
 cases hrw'
 let K':Know:=fun b=>if hd.ownBlock=some b then w.heap[b]? else E.K b
 let E':Env:={ E with K:=K',rw:=fun j=>if j=n then some (.slice none 0 0,css.length+1) else E.rw j }
 have hrwn:E'.rw n=some (.slice none 0 0,css.length+1):=if_pos rfl
 have hholds:∀ b,hd.ownBlock=some b→E.holds n b:=fun b hb=>.inr (.inr ⟨hd,_,hrw,hb⟩)
 have hKle:E.K.le K':=fun b x h=>by
  show (if hd.ownBlock=some b then _ else _)=_
  by_cases hb:hd.ownBlock=some b
  ·rw [hc.apart n b (hholds b hb)] at h;cases h
  ·rw [if_neg hb];exact h
 have hle:E.Le E':=⟨hKle,fun _ _ h=>h,fun _ _ h=>h,rfl,fun r hd1 j h=>by
   by_cases hr:r=n
   ·subst hr
    rw [hrw] at h
    cases h
    exact ⟨_,_,hrwn,by omega,fun e=>by omega⟩
   ·exact ⟨hd1,j,(if_neg hr).trans h,Nat.le_refl _,fun _=>rfl⟩⟩
 have hoth:∀ j b,E'.holds j b→j≠n∧E.holds j b:=fun j b h=>by
  by_cases hj:j=n
  ·subst hj
   rcases h with h | h | ⟨hd1,l,h,h'⟩
   ·rw [show E'.cel j=E.cel j from rfl,hcn] at h;cases h
   ·rw [show E'.mp j=E.mp j from rfl,hmn] at h;cases h
   ·rw [hrwn] at h;cases h;cases h'
  ·refine ⟨hj,?_⟩
   rcases h with h | h | ⟨hd1,l,h,h'⟩
   ·exact .inl h
   ·exact .inr (.inl h)
   ·exact .inr (.inr ⟨hd1,l,(if_neg hj).symm.trans h,h'⟩)
 refine ⟨E',hle,?_,?_⟩
 ·intro k f hk hf
  subst hk
  rcases hown.2 with ⟨h0,h1⟩ | ⟨g,cap,cur,hv,hb,hg,hnc,hcm,hcs,htake⟩
  ·rw [h0,h1]
   exact .lst0 sz f
  ·obtain ⟨arr,hg2,hsz2,hcap2,hcl2,hcm2,hrel2⟩:=row_cells (hc.row hm) hrw hv
   have hKg:K' g=some (.cells arr e (0,0)):=by
    show (if hd.ownBlock=some g then _ else _)=_
    rw [if_pos (by rw [hv];rfl)];exact hg2
   have:=relK_lst_of (f:=f) hKg (fun i hi=>by
    rw [hf i hi]
    refine hlens _ ?_
    simp only [gE,List.getElem?_eq_getElem hi,Option.getD_some]
    exact List.getElem_mem hi) hsz2 hcl2 (by omega) (fun i j hi hj=>by
     rw [hf i hi]
     obtain ⟨g1,g2⟩:=hrel2 i j hi hj
     exact ⟨g1.mono hKle,g2⟩)
   rw [hv]
   exact this
 ·exact
  {laid:=hc.laid.mono hKle
   know:=fun b x h=>by
    change (if hd.ownBlock=some b then w.heap[b]? else E.K b)=some x at h
    by_cases hb:hd.ownBlock=some b
    ·rw [if_pos hb] at h;exact h
    ·rw [if_neg hb] at h;exact hc.know b x h
   base:=Know.le_trans hc.base hKle
   nk:=fun b h1 h2=>by
    show (if hd.ownBlock=some b then _ else _)=_
    rw [if_neg]
    ·exact hc.nk b h1 h2
    ·intro hb
     rcases hc.new n b (hholds b hb) with h | h
     ·exact absurd h1 (Nat.not_lt.2 h)
     ·exact hW b h
   mem:=fun j x hx=>by
    rcases getElem?_set_some hx with ⟨rfl,hx2⟩ | ⟨hk,hx2⟩
    ·cases hx2;exact ⟨_,_,hrwn,rfl⟩
    ·exact (hc.mem j x hx2).mono hle (if_neg hk)
   cel:=fun j b h=>by
    by_cases hj:j=n
    ·subst hj;rw [show E'.cel j=E.cel j from rfl,hcn] at h;cases h
    ·rw [getElem?_set_ne hj];exact hc.cel j b h
   rw:=fun j x h=>by
    by_cases hj:j=n
    ·subst hj;exact ⟨_,getElem?_set_eq hm,rfl⟩
    ·rw [getElem?_set_ne hj];exact hc.rw j x ((if_neg hj).symm.trans h)
   mp:=fun j b h=>by
    by_cases hj:j=n
    ·subst hj;rw [show E'.mp j=E.mp j from rfl,hmn] at h;cases h
    ·rw [getElem?_set_ne hj];exact hc.mp j b h
   inj:=fun j j' b h h'=>hc.inj j j' b (hoth j b h).2 (hoth j' b h').2
   apart:=fun j b h=>by
    obtain ⟨hj,h⟩:=hoth j b h
    show (if hd.ownBlock=some b then _ else _)=_
    rw [if_neg]
    ·exact hc.apart j b h
    ·intro hb
     exact hj (hc.inj j n b h (hholds b hb))
   new:=fun j b h=>hc.new j b (hoth j b h).2
   lt:=fun j b h=>hc.lt j b (hoth j b h).2
   os:=hc.os
   tape:=hc.tape
   output:=hc.output
   size:=hc.size
   old:=hc.old
   j:=hc.j
   y:=hc.y
   dsk:=fun D hD=>⟨hKle _ _ (hc.dsk D hD).1,(hc.dsk D hD).2⟩
   dsn:=hc.dsn }
end Go.Sym
