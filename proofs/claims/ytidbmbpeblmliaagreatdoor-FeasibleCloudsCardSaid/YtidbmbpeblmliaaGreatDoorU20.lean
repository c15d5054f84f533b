/- Part of the proof of the statement that the claim's last text names: contracts of functions and laws of the symbolic layer. -/
import Derived.Shelf.Strings.Builder1
import Derived.Test.YtidbmbpeblmliaaGreatDoorU13
import Derived.Test.YtidbmbpeblmliaaGreatDoorU14
import Derived.Test.YtidbmbpeblmliaaGreatDoorU19
import Derived.Test.YtidbmbpeblmliaaGreatDoorO11
set_option linter.unusedVariables false
set_option linter.unusedSimpArgs false
namespace Go.Proofs.YtidbmbpeblmliaaGreatDoor.Bld
section
open Go.Proofs Go.Proofs.YtidbmbpeblmliaaGreatDoor Go.Shelf Go.RowKit Go.Lib
theorem szB:∃ j,Tryz.prog.info? 258=some j∧j.size=2:=Option.map_eq_some_iff.1 (show (Tryz.prog.info? 258).map (·.size)=some 2 from by kernel_rfl)
theorem liesB:liesAt Tryz.prog Tryz.prog.depth 258 (2 / Tryz.prog.cellsOf 258) 0 258 1=true:=by kernel_rfl
theorem infoByte:(Tryz.prog.info? 5).map (fun i=>(i.zero,i.size,i.bytes))=some (some (.int .u8 0),1,1):=by kernel_rfl
set_option maxHeartbeats 1000000 in
set_option maxRecDepth 100000 in
theorem cc_used (b:Nat) (w:World) (h0:w.cell? ⟨b,0,none⟩=some (.pointer (some ⟨b,0,none⟩))) :
  Calls Tryz.prog 259 #[.pointer (some ⟨b,0,none⟩)] w fun e w'=>e=.returned (.tuple #[])∧w'=w:=by
 obtain ⟨j,hj,_⟩:=szB
 go_enter Tryz.func259,Tryz.ntmps259
 go_wp2
 rw [Lib.run_neq_ptr_same w _ Tryz.underlying255 hj]
 go_wp2
 go_end0
 exact ⟨rfl,rfl⟩
set_option maxHeartbeats 1000000 in
set_option maxRecDepth 100000 in
theorem cc_fresh (b:Nat) (w:World) (h0:w.cell? ⟨b,0,none⟩=some (.pointer none)) (hsh:w.shape? b=some (258,2)) (hfz:w.frozen? ⟨b,0,none⟩=false) :
  Calls Tryz.prog 259 #[.pointer (some ⟨b,0,none⟩)] w fun e w'=>e=.returned (.tuple #[])∧w'=w.setCell ⟨b,0,none⟩ (.pointer (some ⟨b,0,none⟩)):=by
 obtain ⟨j,hj,hjs⟩:=szB
 go_enter Tryz.func259,Tryz.ntmps259
 go_wp2
 rw [Lib.run_to_unsafe w ⟨b,0,none⟩ Tryz.underlying255 Tryz.underlying361 hj (by rw [hjs];decide) hsh (Nat.zero_lt_succ 1)]
 simp only [Result.andThen]
 rw [Oper.upon_value]
 go_wp2
 rw [run_callFunc_extern Tryz.func320 kr kr kr (e:=Extern.AbiNoEscape.same) kr]
 rw [Lib.run_noEscape]
 simp only [Result.andThen]
 rw [Oper.upon_value]
 go_wp2
 rw [Lib.run_from_unsafe w ⟨b,0,none⟩ Tryz.underlying361 Tryz.underlying255 hj hsh liesB]
 simp only [Result.andThen]
 rw [Oper.upon_value]
 go_wp2
 go_end0
 exact ⟨rfl,rfl⟩
structure Wr (w w':World) (b:Nat) (r:Option Nat):Prop where
 os:w'.os=w.os
 tape:w'.tape=w.tape
 output:w'.output=w.output
 size:w.heap.size≤w'.heap.size
 old:∀ k,k<w.heap.size→k≠b→r≠some k→w'.heap[k]?=w.heap[k]?
theorem set_at{w:World}{b:Nat}{cur:Array Value}{T:TypeId}(hb:w.heap[b]?=some (.cells cur T (0,0)))(j:Nat)(v:Value):(w.setCell ⟨b,j,none⟩ v).heap[b]?=some (.cells (cur.setIfInBounds j v) T (0,0)):=by
 simp [World.setCell,Array.getElem?_modify,hb]
theorem set_other(w:World)(b j k:Nat)(v:Value)(h:k≠b):(w.setCell ⟨b,j,none⟩ v).heap[k]?=w.heap[k]?:=by
 simp [World.setCell,Array.getElem?_modify,Ne.symm h]
theorem set_size(w:World)(b j:Nat)(v:Value):(w.setCell ⟨b,j,none⟩ v).heap.size=w.heap.size:=by simp [World.setCell]
theorem cc_any(b:Nat)(p v:Value)(w:World)(hb:w.heap[b]?=some (.cells #[p,v] 258 (0,0)))(hp:p=.pointer none∨p=.pointer (some ⟨b,0,none⟩)):
  Calls Tryz.prog 259 #[.pointer (some ⟨b,0,none⟩)] w fun e w'=>e=.returned (.tuple #[])∧w'.heap[b]?=some (.cells #[.pointer (some ⟨b,0,none⟩),v] 258 (0,0))∧w.grownBy w' (some b)∧w'.heap.size=w.heap.size:=by
 rcases hp with rfl | rfl
 ·refine (cc_fresh b w (by simp [World.cell?,hb]) (by simp [World.shape?,hb]) (Lib.frozen_of_heap hb 0)).mono ?_
  rintro e w' ⟨rfl,rfl⟩
  have hlt:b<w.heap.size:=(Array.getElem?_eq_some_iff.1 hb).1
  exact ⟨rfl,set_at hb 0 _,⟨rfl,rfl,rfl,by rw [set_size];exact Nat.le_refl _,fun k hk hne=>set_other w b 0 k _ (fun e=>hne (by rw [e]))⟩,set_size w b 0 _⟩
 ·refine (cc_used b w (by simp [World.cell?,hb])).mono ?_
  rintro e w' ⟨rfl,rfl⟩
  exact ⟨rfl,hb,⟨rfl,rfl,rfl,Nat.le_refl _,fun _ _ _=>rfl⟩,rfl⟩
section
variable {P:Program} (w:World)
theorem run_app2(base:Nat)(t u ty e:TypeId)(i:TypeInfo)(ht:P.underlying t=some (.slice e))(hu:P.underlying u=some .string)(hi:P.info? e=some i)(hz:i.zero=some (.int .u8 0)) 
  (hsize:i.size=1) (hby:i.bytes=1)
  (v:Value) (n:Nat) (xs:List Value) (hown:w.ownsRow base e 1 v n xs) (s:BA)
  (h63:n+s.size≤maxLen) (hbytes:n+s.size≤140737488355328) (hbase:base≤w.heap.size) :
  ∃ v' w',(Builtin.append_ #[t,u] ty #[v,.string s]).run P w=.ok v' w'∧w'.ownsRow base e 1 v' (n+s.size) (xs++strCells s)∧w.grownBy w' v.ownBlock∧∀ b,v'.ownBlock=some b→v.ownBlock=some b∨(w.heap.size≤b∧b<w'.heap.size):=by
 have hsmall:n+s.size≤9223372036854775807:=by simp only [maxLen] at h63;omega
 have hxl:xs.length=n:=by simpa using hown.1
 obtain ⟨v',w',hr,h2,h3,h4⟩:=run_append_own_string (P:=P) w base t u ty e i ht hu hi hz hsize hby v n xs hown s h63 hbytes hbase
 refine ⟨v',w',hr,h2,h3,fun b hb=>?_⟩
 rcases hown.2 with ⟨rfl,rfl⟩ | ⟨g,cap,cur,rfl,hbg,hg,hnc,hcm,hcs,htake⟩
 ·obtain ⟨v2,w2,hr2,q2,_⟩:=run_append_own_string (P:=P) w w.heap.size t u ty e i ht hu hi hz hsize hby (.slice none 0 0) 0 [] (World.ownsRow_nil w _ e 1) s h63 hbytes (Nat.le_refl _)
  rw [hr] at hr2
  cases hr2
  right
  rcases q2.2 with ⟨rfl,_⟩ | ⟨g,cap,cur,rfl,hbg,hg,_⟩
  ·cases hb
  ·simp only [Value.ownBlock,Option.map_some,Option.some.injEq] at hb
   subst hb
   exact ⟨hbg,(Array.getElem?_eq_some_iff.1 hg).1⟩
 ·by_cases hroom:n+s.size≤cap
  ·have hcz:cur.size=cap:=by simpa using hcs
   have hr3:=run_append_room_string (P:=P) w t u ty e i ht hu hi hsize g n cap cur hg s hroom om
   rw [hr] at hr3
   cases hr3
   exact .inl hb
  ·have holds:∀ j u,xs[j]?=some u→w.cell? ((⟨g,0,none⟩:Addr).add j)=some u:=hown.cells (g:=g) rfl
   have hr3:=run_append_grow_string (P:=P) w t u ty e i (.int .u8 0) ht hu hi hz ⟨g,0,none⟩ n cap xs (by rw [hsize];simpa using hxl) holds s om om (by rw [hby];exact growslice_fits om om)
   rw [hr] at hr3
   cases hr3
   right
   simp only [Value.ownBlock,Option.map_some,Option.some.injEq] at hb
   subst hb
   exact ⟨Nat.le_refl _,by simp⟩
theorem wp_app2{ops:Array Oper}{rest:List Oper}{o:Oper}{a:Act}{Q:Exit→Act→World→Prop}(hgd:o.guard=none)(sl x:Operand)(t u:TypeId) 
  (ho:o.op=.call { callee:=.builtin .append,args:=#[sl,x],argTypes:=#[t,u] })
  (base:Nat) (e:TypeId) (i:TypeInfo) (ht:P.underlying t=some (.slice e)) (hu:P.underlying u=some .string) (hi:P.info? e=some i) (hz:i.zero=some (.int .u8 0))
  (hsize:i.size=1) (hby:i.bytes=1)
  (v:Value) (n:Nat) (xs:List Value) (hs:a.eval sl=v) (hown:w.ownsRow base e 1 v n xs) (s:BA) (hx:a.eval x=.string s)
  (h63:n+s.size≤maxLen) (hbytes:n+s.size≤140737488355328) (hbase:base≤w.heap.size)
  (h:∀ v' w',w'.ownsRow base e 1 v' (n+s.size) (xs++strCells s)→w.grownBy w' v.ownBlock→(∀ b,v'.ownBlock=some b→v.ownBlock=some b∨(w.heap.size≤b∧b<w'.heap.size))→wpList P ops Q rest (a.put o.dst v') w'):wpList P ops Q (o :: rest) a w:=by
 refine wpList_plain hgd fun K hK=>?_
 obtain ⟨v',w',hr,h2,h3,h4⟩:=run_app2 (P:=P) w base t u o.type e i ht hu hi hz hsize hby v n xs hown s h63 hbytes hbase
 unfold Oper.wp execOp
 simp only [ho,resolve,invoke,builtin,Sem.run_bind,Sem.run_pure,Result.andThen_ok,List.map_toArray,List.map_cons,List.map_nil,hs,hx,hr]
 exact hK _ _ (h v' w' h2 h3 h4)
end
def WsOut(b:Nat)(v:Value)(n:Nat)(xs:List Value)(s:BA)(w w':World):Prop:=
 ∃ v',w'.heap[b]?=some (.cells #[.pointer (some ⟨b,0,none⟩),v'] 258 (0,0))∧w'.ownsRow 0 5 1 v' (n+s.size) (xs++strCells s)∧Wr w w' b v.ownBlock∧∀ g,v'.ownBlock=some g→v.ownBlock=some g∨(w.heap.size≤g∧g<w'.heap.size)
theorem ws_fin{b n:Nat}{v:Value}{ao:Option Addr}{n' cap:Nat}{xs:List Value}{s:BA}{w w1 w2:World}(hb2:w2.heap[b]?=some (.cells #[.pointer (some ⟨b,0,none⟩),v] 258 (0,0)))(hne:v.ownBlock≠some b) 
  (hlt:b<w1.heap.size) (hs1:w.grownBy w1 (some b)) (hz1:w1.heap.size=w.heap.size) (hgrow:w1.grownBy w2 v.ownBlock) (hown':w2.ownsRow 0 5 1 (.slice ao n' cap) (n+s.size) (xs++strCells s))
  (hblk:∀ g,(Value.slice ao n' cap).ownBlock=some g→v.ownBlock=some g∨(w.heap.size≤g∧g<w2.heap.size)):WsOut b v n xs s w (w2.setCell ⟨b,1,none⟩ (.slice ao n' cap)):=by
 have hlt2:b<w2.heap.size:=Nat.lt_of_lt_of_le hlt hgrow.size
 have hnb:(Value.slice ao n' cap).ownBlock≠some b:=fun e=>by
  rcases hblk b e with h | h
  ·exact hne h
  ·omega
 have hset:∀ k,k≠b→(w2.setCell ⟨b,1,none⟩ (.slice ao n' cap)).heap[k]?=w2.heap[k]?:=fun k hk=>by
  exact set_other w2 b 1 k _ hk
 have hsz:(w2.setCell ⟨b,1,none⟩ (.slice ao n' cap)).heap.size=w2.heap.size:=set_size w2 b 1 _
 refine ⟨.slice ao n' cap,?_,hown'.kept (row:=some b) ⟨rfl,rfl,rfl,by rw [hsz];exact Nat.le_refl _,fun k _ hk=>hset k (fun e=>hk (by rw [e]))⟩ ?_,⟨?_,?_,?_,?_,fun k hk h1 h2=>?_⟩,fun g hg=>?_⟩
 ·exact set_at hb2 1 _
 ·cases hv:(Value.slice ao n' cap).ownBlock with
  | none=>exact .inl rfl
  | some g=>exact .inr fun e=>hnb (e▸hv)
 ·exact hgrow.os.trans hs1.os
 ·exact hgrow.tape.trans hs1.tape
 ·exact hgrow.output.trans hs1.output
 ·rw [hsz];exact Nat.le_trans hs1.size hgrow.size
 ·rw [hset k h1,hgrow.block k om (fun e=>h2 e.symm),hs1.block k hk (fun e=>h1 (by simpa using e))]
 ·rcases hblk g hg with h | h
  ·exact .inl h
  ·exact .inr (by rw [hsz];omega)
set_option maxHeartbeats 2000000 in
set_option maxRecDepth 100000 in
theorem ws_calls (b n:Nat) (p v:Value) (xs:List Value) (s:BA) (w:World) (hb:w.heap[b]?=some (.cells #[p,v] 258 (0,0))) (hp:p=.pointer none∨p=.pointer (some ⟨b,0,none⟩)) (hown:w.ownsRow 0 5 1 v n xs) (hne:v.ownBlock≠some b) (hlen:n+s.size≤140737488355328) :
  Calls Tryz.prog 198 #[.pointer (some ⟨b,0,none⟩),.string s] w fun e w'=>e=.returned (.tuple #[.int .i64 s.size,.nilIface])∧WsOut b v n xs s w w':=by
 obtain ⟨i0,hi,hz0,hz1,hz2⟩:=info_parts infoByte
 have ecc:∀ args w,(callFunc 259 args).run Tryz.prog w=.ok (.enter 259 args) w:=enters_of Tryz.func259 kr rfl
 go_enter Tryz.func198,Tryz.ntmps198
 go_wp2_with (go_at_fn 259;refine (cc_any b p v _ hb hp).mono ?_)
 rintro e w1 ⟨rfl,hb1,hs1,hs1z⟩
 have c0:w1.cell? ⟨b,0,none⟩=some (.pointer (some ⟨b,0,none⟩)):=by rw [Lib.cell_of_heap hb1];rfl
 have c1:w1.cell? ⟨b,1,none⟩=some v:=by rw [Lib.cell_of_heap hb1];rfl
 have hown1:w1.ownsRow 0 5 1 v n xs:=hown.kept hs1 (by cases hv:v.ownBlock with | none=>exact .inl rfl | some g=>exact .inr fun e=>hne (e▸hv))
 go_wp2_with (at_builtin;refine wp_app2 _ rfl _ _ 256 9 rfl 0 5 i0 Tryz.underlying256 Tryz.underlying9 hi hz0 hz1 hz2 _ _ _ rfl hown1 s rfl ?c3 ?c4 ?c5 ?_)
 case c3=>unfold maxLen;omega
 case c4=>omega
 case c5=>omega
 intro v' w2 hown' hgrow hblk
 have hlt:b<w1.heap.size:=(Array.getElem?_eq_some_iff.1 hb1).1
 have hb2:w2.heap[b]?=some (.cells #[.pointer (some ⟨b,0,none⟩),v] 258 (0,0)):=by
  rw [hgrow.block b hlt (fun e=>hne e.symm)]
  exact hb1
 have d0:w2.cell? ⟨b,0,none⟩=some (.pointer (some ⟨b,0,none⟩)):=by rw [Lib.cell_of_heap hb2];rfl
 have d1:w2.cell? ⟨b,1,none⟩=some v:=by rw [Lib.cell_of_heap hb2];rfl
 have f1:w2.frozen? ⟨b,1,none⟩=false:=Lib.frozen_of_heap hb2 1
 obtain ⟨ao,n',cap,rfl⟩:∃ ao n' cap,v'=.slice ao n' cap:=by
  rcases hown'.2 with ⟨hv,_⟩ | ⟨g,cap,cur,hv,_⟩
  ·exact ⟨_,_,_,hv⟩
  ·exact ⟨_,_,_,hv⟩
 go_wp2
 go_ret2
 exact ⟨rfl,ws_fin hb2 hne hlt hs1 hs1z hgrow hown' hblk⟩
set_option maxHeartbeats 2000000 in
set_option maxRecDepth 100000 in
theorem ws_callsD (b n:Nat) (p v:Value) (xs:List Value) (s:BA) (w:World) (hb:w.heap[b]?=some (.cells #[p,v] 258 (0,0))) (hp:p=.pointer none∨p=.pointer (some ⟨b,0,none⟩)) (hown:w.ownsRow 0 5 1 v n xs) (hne:v.ownBlock≠some b) (hlen:n+s.size≤140737488355328) (u:FrameMode) :
  CallsDIn (Sym.FB none) 0 Tryz.prog 198 #[.pointer (some ⟨b,0,none⟩),.string s] u w fun e u' w'=>u'=u∧e=.returned (.tuple #[.int .i64 s.size,.nilIface])∧WsOut b v n xs s w w':=by
 obtain ⟨i0,hi,hz0,hz1,hz2⟩:=info_parts infoByte
 have ecc:∀ args w,(callFunc 259 args).run Tryz.prog w=.ok (.enter 259 args) w:=enters_of Tryz.func259 kr rfl
 refine callsDIn_of_wp (R:=fun e w'=>e=.returned (.tuple #[.int .i64 s.size,.nilIface])∧WsOut b v n xs s w w') Tryz.func198 rfl trivial (wpIn_wide.2 ?_) rfl
 simp only [Tryz.ntmps198,List.size_toArray,List.length_cons,List.length_nil,Nat.reduceAdd,Nat.reduceSub,Array.replicate_succ,
   Array.replicate_zero,List.push_toArray,List.append_toArray,List.nil_append,List.cons_append]
 go_wp2_with (go_at_fn 259;refine (cc_any b p v _ hb hp).mono ?_)
 rintro e w1 ⟨rfl,hb1,hs1,hs1z⟩
 have c0:w1.cell? ⟨b,0,none⟩=some (.pointer (some ⟨b,0,none⟩)):=by rw [Lib.cell_of_heap hb1];rfl
 have c1:w1.cell? ⟨b,1,none⟩=some v:=by rw [Lib.cell_of_heap hb1];rfl
 have hown1:w1.ownsRow 0 5 1 v n xs:=hown.kept hs1 (by cases hv:v.ownBlock with | none=>exact .inl rfl | some g=>exact .inr fun e=>hne (e▸hv))
 go_wp2_with (at_builtin;refine wp_app2 _ rfl _ _ 256 9 rfl 0 5 i0 Tryz.underlying256 Tryz.underlying9 hi hz0 hz1 hz2 _ _ _ rfl hown1 s rfl ?c3 ?c4 ?c5 ?_)
 case c3=>unfold maxLen;omega
 case c4=>omega
 case c5=>omega
 intro v' w2 hown' hgrow hblk
 have hlt:b<w1.heap.size:=(Array.getElem?_eq_some_iff.1 hb1).1
 have hb2:w2.heap[b]?=some (.cells #[.pointer (some ⟨b,0,none⟩),v] 258 (0,0)):=by
  rw [hgrow.block b hlt (fun e=>hne e.symm)]
  exact hb1
 have d0:w2.cell? ⟨b,0,none⟩=some (.pointer (some ⟨b,0,none⟩)):=by rw [Lib.cell_of_heap hb2];rfl
 have d1:w2.cell? ⟨b,1,none⟩=some v:=by rw [Lib.cell_of_heap hb2];rfl
 have f1:w2.frozen? ⟨b,1,none⟩=false:=Lib.frozen_of_heap hb2 1
 obtain ⟨ao,n',cap,rfl⟩:∃ ao n' cap,v'=.slice ao n' cap:=by
  rcases hown'.2 with ⟨hv,_⟩ | ⟨g,cap,cur,hv,_⟩
  ·exact ⟨_,_,_,hv⟩
  ·exact ⟨_,_,_,hv⟩
 go_wp2
 go_ret2
 exact ⟨rfl,ws_fin hb2 hne hlt hs1 hs1z hgrow hown' hblk⟩
end
section
open Go.Sym Go.RowKit Go.Lib Go.Proofs Go.Proofs.YtidbmbpeblmliaaGreatDoor
def bytesC(x:BA):List (List C):=x.data.toList.map fun b=>[.int .u8 (b.toNat:Int)]
theorem bytesC_len(x:BA):(bytesC x).length=x.size:=by simp [bytesC]
theorem bytesC_app(x y:BA):bytesC (x++y)=bytesC x++bytesC y:=by simp [bytesC,ByteArray.data_append]
theorem bytesC_one(x:BA):∀ c,c∈bytesC x→c.length=1:=fun c hc=>by
 simp only [bytesC,List.mem_map] at hc
 obtain ⟨b,_,rfl⟩:=hc
 rfl
theorem bytesC_flat(x:BA):(bytesC x).flatten=x.data.toList.map fun b=>.int .u8 (b.toNat:Int):=by
 unfold bytesC
 induction x.data.toList with
 | nil=>rfl
 | cons b l ih=>simp [ih]
theorem bytesC_rel(K:Know)(x:BA):RelLK K (bytesC x).flatten (strCells x).toArray:=by
 rw [bytesC_flat]
 refine ⟨by simp [strCells],fun j hj=>?_⟩
 simp only [List.length_map] at hj
 have hj':j<x.data.size:=by simpa using hj
 have h1:(x.data.toList.map fun b=>C.int .u8 (b.toNat:Int)).getD j .junk=.int .u8 ((x.data.toList[j]).toNat:Int):=by simp [gE,getElem?_pos x.data j hj']
 have h2:(strCells x).toArray.getD j undef=.int .u8 ((x.data.toList[j]).toNat:Int):=by
  rw [getD_toArray];simp [strCells,gE,getElem?_pos x.data j hj']
 rw [h1,h2]
 exact ⟨.int _ _,rfl⟩
def mB(b r:Nat)(x:BA):List (Nat×MO):=[(b,.tcells 258 [.junk,.row r x.size]),(r,.row 5 1 (bytesC x))]
theorem bld_in{b r:Nat}{x:BA}{E:Env}{w:World}(hbr:b≠r)(hat:OwnAt E (mB b r x) w){u:Value}(hu:RelCV E (.c (.ptr b 0)) u):
  ∃ bb p v xs,u=.pointer (some ⟨bb,0,none⟩)∧E.cel b=some bb∧E.rw r=some (v,x.size)∧w.heap[bb]?=some (.cells #[p,v] 258 (0,0))∧(p=.pointer none∨p=.pointer (some ⟨bb,0,none⟩))∧w.ownsRow 0 5 1 v x.size xs∧v.ownBlock≠some bb∧RelLK E.K (bytesC x).flatten xs.toArray:=by
 obtain ⟨⟨bb,hc,rfl⟩,_⟩:=hu
 obtain ⟨bb',arr,hc',hh,hsn,hl⟩:MRel E w b (.tcells 258 [.junk,.row r x.size]):=hat.mem b _ List.mem_cons_self
 rw [hc] at hc';cases hc'
 have h1:=(hl.2 1 (Nat.lt_succ_self 1)).1
 obtain ⟨g1,g2,g3,xs,g4,g5⟩:=own_row_in2 (u:=arr.getD 1 undef) (css:=bytesC x) (List.mem_cons_of_mem _ List.mem_cons_self) hat (by rw [bytesC_len];exact h1)
 rw [bytesC_len] at g3 g4
 have harr:arr=#[arr.getD 0 undef,arr.getD 1 undef]:=by
  have hz:arr.size=2:=hl.1
  apply Array.ext
  ·simp [hz]
  ·intro i hi _
   rw [hz] at hi
   match i,hi with
   | 0,_=>simp [hz]
   | 1,_=>simp [hz]
 refine ⟨bb,arr.getD 0 undef,arr.getD 1 undef,xs,rfl,hc,g3,by rw [← harr];exact hh,hsn,g4,fun e=>?_,g5⟩
 exact hbr (hat.inj b r bb (.inl hc) (.inr (.inr ⟨_,_,g3,e⟩)))
theorem bld_out{b r bb:Nat}{x y:BA}{E:Env}{w w':World}{v v':Value}{xs:List Value}(hK:Knows E.K w)(hbr:b≠r)(hat:OwnAt E (mB b r x) w)(hc:E.cel b=some bb)(hr:E.rw r=some (v,x.size)) 
  (hb:w'.heap[bb]?=some (.cells #[.pointer (some ⟨bb,0,none⟩),v'] 258 (0,0))) (hown:w'.ownsRow 0 5 1 v' y.size xs) (hrel:RelLK E.K (bytesC y).flatten xs.toArray) (hw:Wr w w' bb v.ownBlock) (hv:∀ g,v'.ownBlock=some g→v.ownBlock=some g∨(w.heap.size≤g∧g<w'.heap.size)) :
  OwnOut [r] E (mB b r y) w E.K (fun n=>if n=r then some (v',y.size) else E.rw n) w':=by
 have hcr:E.cel r=none:=by
  cases h:E.cel r with
  | none=>rfl
  | some g =>
   obtain ⟨o,ho,hbx⟩:=hat.cel r g h
   simp only [mB,List.mem_cons,Prod.mk.injEq,List.not_mem_nil,or_false] at ho
   rcases ho with ⟨h1,_⟩ | ⟨_,rfl⟩
   ·exact absurd h1.symm hbr
   ·cases hbx
 have hholds:∀ n g,(E.upd E.K (fun n=>if n=r then some (v',y.size) else E.rw n)).holds n g→E.holds n g∨(n=r∧w.heap.size≤g∧g<w'.heap.size):=fun n g h=>by
  rcases h with h | h | ⟨hd,len,h,h'⟩
  ·exact .inl (.inl h)
  ·exact .inl (.inr (.inl h))
  ·simp only [Env.upd] at h
   by_cases hn:n=r
   ·subst hn
    rw [if_pos rfl] at h
    cases h
    rcases hv g h' with h | h
    ·exact .inl (.inr (.inr ⟨_,_,hr,h⟩))
    ·exact .inr ⟨rfl,h⟩
   ·rw [if_neg hn] at h
    exact .inl (.inr (.inr ⟨hd,len,h,h'⟩))
 have hold:∀ k,k<w.heap.size→(∀ n,¬ E.holds n k)→w'.heap[k]?=w.heap[k]?:=fun k hk hn=>hw.old k hk (fun e=>hn b (.inl (e▸hc))) (fun e=>hn r (.inr (.inr ⟨_,_,hr,e⟩)))
 refine
 {le:=Know.le_refl _
  nk:=fun _ _ h=>h
  know:=fun k o h=>by
   have h1:=hK k o h
   rw [hold k (Array.getElem?_eq_some_iff.1 h1).1 fun n hn=>by have:=(hat.place n k hn).1;rw [h] at this;cases this]
   exact h1
  same:=fun n hn=>?_
  mem:=fun n o h=>?_
  inj:=fun n n' g h h'=>by
   rcases hholds n g h with h1 | ⟨h1,h2,_⟩<;>rcases hholds n' g h' with h3 | ⟨h3,h4,_⟩
   ·exact hat.inj n n' g h1 h3
   ·have:=(hat.place n g h1).2;omega
   ·have:=(hat.place n' g h3).2;omega
   ·rw [h1,h3]
  place:=fun n g h=>by
   rcases hholds n g h with h1 | ⟨h1,h2,h3⟩
   ·have h2:=hat.place n g h1
    exact ⟨h2.1,Nat.lt_of_lt_of_le h2.2 hw.size,.inr ⟨n,h1⟩⟩
   ·refine ⟨?_,h3,.inl h2⟩
    cases hk:E.K g with
    | none=>rfl
    | some o=>have:=(Array.getElem?_eq_some_iff.1 (hK g o hk)).1;omega
  os:=hw.os
  tape:=hw.tape
  output:=hw.output
  size:=hw.size
  old:=hold }
 ·by_cases hr':n=r
  ·subst hr'
   simp [hasN] at hn
  ·rw [if_neg hr']
 ·simp only [mB,List.mem_cons,List.not_mem_nil,or_false,Prod.mk.injEq] at h
  rcases h with ⟨rfl,rfl⟩ | ⟨rfl,rfl⟩
  ·refine ⟨bb,_,hc,hb,.inr rfl,rfl,fun j hj=>?_⟩
   match j,hj with
   | 0,_=>exact ⟨.junk _,rfl⟩
   | 1,_ =>
    refine ⟨⟨v',y.size,by simp [Env.upd],Nat.le_refl _,fun _=>rfl⟩,?_⟩
    rcases hown.2 with ⟨h,_⟩ | ⟨g,cap,cur,h,_⟩<;>(subst h;rfl)
  ·exact ⟨by decide,bytesC_one y,v',xs,by simp [Env.upd,bytesC_len],by rw [bytesC_len];exact hown,hrel⟩
theorem ws_post{b r bb:Nat}{x s:BA}{E:Env}{w w':World}{v:Value}{xs:List Value}(hK:Knows E.K w)(hbr:b≠r)(hat:OwnAt E (mB b r x) w)(hc:E.cel b=some bb)(hr:E.rw r=some (v,x.size))(hrel:RelLK E.K (bytesC x).flatten xs.toArray) 
  (h:WsOut bb v x.size xs s w w'):∃ rw',OwnOut [r] E (mB b r (x++s)) w E.K rw' w':=by
 obtain ⟨v',h1,h2,h3,h4⟩:=h
 refine ⟨_,bld_out (xs:=xs++strCells s) hK hbr hat hc hr h1 (by rw [ByteArray.size_append];exact h2) ?_ h3 h4⟩
 rw [bytesC_app,List.flatten_append]
 exact hrel.app (bytesC_rel _ _)
theorem libf{f:FuncId}{fn:Func}(h:Tryz.prog.funcs[f]?=some fn)(h2:(fn.body.isSome&&!(fn.name== "runtime.NumGoroutine"))=true):∃ fn,Tryz.prog.funcs[f]?=some fn∧fn.body.isSome=true∧(fn.name== "runtime.NumGoroutine")=false:=by
 rw [Bool.and_eq_true,Bool.not_eq_true'] at h2
 exact ⟨fn,h,h2.1,h2.2⟩
theorem two_args{E:Env}{vs:Array Value}{b:Nat}{s:BA}(hsz:vs.size=2)(hrel:∀ j,j<2→RelCV E ([CV.c (.ptr b 0),.c (.str s)].getD j (.c .junk)) (vs.getD j undef)):∃ u,vs=#[u,.string s]∧RelCV E (.c (.ptr b 0)) u:=by
 refine ⟨vs.getD 0 undef,?_,hrel 0 (by decide)⟩
 have h1:RelK E.K (.str s) (vs.getD 1 undef):=(hrel 1 (by decide)).1
 have h2:vs.getD 1 undef=.string s:=by
  generalize vs.getD 1 undef=u at h1
  cases h1;rfl
 rw [← h2]
 apply Array.ext
 ·simp [hsz]
 ·intro i hi _
  rw [hsz] at hi
  match i,hi with
  | 0,_=>simp [hsz]
  | 1,_=>simp [hsz]
def wsR(s:BA):SB:=.tup [vI (s.size:Int),.c (.lit .nilIface)]
theorem wsR_rel{E:Env}(s:BA):RelSB E (wsR s) (.tuple #[.int .i64 s.size,.nilIface]):=by
 refine ⟨_,rfl,rfl,fun j hj=>?_⟩
 match j,hj with
 | 0,_=>exact ⟨.int _ _,rfl⟩
 | 1,_=>exact ⟨.lit _ rfl,rfl⟩
theorem ws_c(b r:Nat)(x s:BA)(hbr:b≠r)(hl:x.size+s.size≤140737488355328):FOwn Tryz.prog 198 [r] [.c (.ptr b 0),.c (.str s)] (mB b r x) (wsR s) (mB b r (x++s)):=by
 refine ⟨libf Tryz.func198 kr,fun E w vs hKl hK hat hsz hrel=>?_⟩
 obtain ⟨u,rfl,hu⟩:=two_args hsz hrel
 obtain ⟨bb,p,v,xs,rfl,h1,h2,h3,h4,h5,h6,h7⟩:=bld_in hbr hat hu
 refine (ws_calls bb x.size p v xs s w h3 h4 h5 h6 hl).mono ?_
 rintro e w' ⟨rfl,ho⟩
 obtain ⟨rw',ho'⟩:=ws_post hK hbr hat h1 h2 h7 ho
 exact ⟨E.K,rw',_,rfl,ho',wsR_rel s⟩
theorem ws_d(b r:Nat)(x s:BA)(hbr:b≠r)(hl:x.size+s.size≤140737488355328):FOwnD Tryz.prog 198 [r] [.c (.ptr b 0),.c (.str s)] (mB b r x) (wsR s) (mB b r (x++s)):=by
 refine ⟨libf Tryz.func198 kr,fun E w vs u0 hKl hK hat hsz hrel=>?_⟩
 obtain ⟨u,rfl,hu⟩:=two_args hsz hrel
 obtain ⟨bb,p,v,xs,rfl,h1,h2,h3,h4,h5,h6,h7⟩:=bld_in hbr hat hu
 refine (ws_callsD bb x.size p v xs s w h3 h4 h5 h6 hl u0).mono ?_
 rintro e u' w' ⟨rfl,rfl,ho⟩
 obtain ⟨rw',ho'⟩:=ws_post hK hbr hat h1 h2 h7 ho
 exact ⟨rfl,E.K,rw',_,rfl,ho',wsR_rel s⟩
end
end Go.Proofs.YtidbmbpeblmliaaGreatDoor.Bld
namespace Go.Proofs.YtidbmbpeblmliaaGreatDoor.Bld
section
open Go.Proofs Go.Proofs.YtidbmbpeblmliaaGreatDoor Go.Shelf Go.RowKit Go.Lib
theorem us_none(W:World)(q:Option Addr):(Builtin.unsafeString_ #[323,3] 9 #[.pointer q,.int .i64 0]).run Tryz.prog W=.ok (.string .empty) W:=
 Lib.run_unsafeString_none W _ _ _ q
theorem grown_drew(w:World)(r:Option Nat):w.grownBy w.drew r:=⟨rfl,rfl,rfl,Nat.le_refl _,fun _ _ _=>rfl⟩
theorem grown_freeze(w:World)(g n:Nat)(hn:n≠0):w.grownBy (w.drew.freeze ⟨g,0,none⟩ n) (some g):=by
 unfold World.freeze
 rw [if_neg hn]
 refine ⟨rfl,rfl,rfl,?_,fun k _ hk=>?_⟩
 ·show w.heap.size≤(w.drew.heap.modify g _).size
  rw [Array.size_modify]
  exact Nat.le_refl _
 ·have:g≠k:=fun e=>hk (by rw [e])
  show (w.drew.heap.modify g _)[k]?=w.heap[k]?
  rw [Array.getElem?_modify,if_neg this]
  rfl
set_option maxHeartbeats 2000000 in
set_option maxRecDepth 100000 in
theorem st_bytes (b g cap:Nat) (p:Value) (cur:Array Value) (l:List UInt8) (w:World) (h0:l≠[]) (hbk:w.heap[b]?=some (.cells #[p,.slice (some ⟨g,0,none⟩) l.length cap] 258 (0,0))) (hown:w.ownsRow 0 5 1 (.slice (some ⟨g,0,none⟩) l.length cap) l.length (Lib.byteCells l))
  (hg:w.heap[g]?=some (.cells cur 5 (0,0))) (hnc:l.length≤cap) (hcm:cap≤maxLen) (hcs:cur.size=cap*1) :
  Calls Tryz.prog 203 #[.pointer (some ⟨b,0,none⟩)] w fun e w'=>e=.returned (.string ⟨l.toArray⟩)∧w.grownBy w' (some g):=by
 have hl0:l.length≠0:=by simpa using h0
 have c1:w.drew.cell? ⟨b,1,none⟩=some (.slice (some ⟨g,0,none⟩) l.length cap):=by
  have:w.drew.heap[b]?=some (.cells #[p,.slice (some ⟨g,0,none⟩) l.length cap] 258 (0,0)):=hbk
  rw [Lib.cell_of_heap this];rfl
 have hSD:(Builtin.unsafeSliceData_ #[256] 323 #[.slice (some ⟨g,0,none⟩) l.length cap]).run Tryz.prog w.drew=.ok (.pointer (some ⟨g,0,none⟩)) w.drew:=
  Lib.run_unsafeSliceData_row _ _ _ _ _ _ om
 have hUS:(Builtin.unsafeString_ #[323,3] 9 #[.pointer (some ⟨g,0,none⟩),.int .i64 l.length]).run Tryz.prog w.drew=.ok (.string ⟨l.toArray⟩) (w.drew.freeze ⟨g,0,none⟩ l.length):=by
  refine Lib.run_unsafeString_row w.drew 323 3 9 5 Tryz.underlying323 Tryz.Builder_Extra_169.cellsByte g cur.size (by have hg':w.drew.heap[g]?=some (.cells cur 5 (0,0)):=hg;simp [World.shape?,hg']) l h0 om (by unfold maxLen at hcm;omega) ?_
  intro j x hx
  have:=hown.cells (g:=g) rfl j (.int .u8 x.toNat) (by simp [Lib.byteCells,hx])
  exact this
 have mixed:Tryz.prog.follows .mixedOrders=true:=by kernel_rfl
 have u72:=run_underlying Tryz.underlying258
 have u70:=run_underlying Tryz.underlying255
 have u37:=run_underlying Tryz.underlying256
 have u127:=run_underlying Tryz.underlying323
 have u3:=run_underlying Tryz.underlying3
 have u9:=run_underlying Tryz.underlying9
 have u5:=run_underlying Tryz.underlying5
 go_enter Tryz.func203,Tryz.ntmps203
 go_wp2
 go_region_o
 all_goals (go_wp2;go_ret;exact ⟨rfl,grown_freeze w g _ hl0⟩)
set_option maxHeartbeats 2000000 in
set_option maxRecDepth 100000 in
theorem st_nil (b:Nat) (p:Value) (w:World) (hbk:w.heap[b]?=some (.cells #[p,.slice none 0 0] 258 (0,0))) :
  Calls Tryz.prog 203 #[.pointer (some ⟨b,0,none⟩)] w fun e w'=>e=.returned (.string ⟨#[]⟩)∧w.grownBy w' none:=by
 have hUS:=us_none
 have c1:w.drew.cell? ⟨b,1,none⟩=some (.slice none 0 0):=by
  have:w.drew.heap[b]?=some (.cells #[p,.slice none 0 0] 258 (0,0)):=hbk
  rw [Lib.cell_of_heap this];rfl
 have hSD:(Builtin.unsafeSliceData_ #[256] 323 #[.slice none 0 0]).run Tryz.prog w.drew=.ok (.pointer none) w.drew:=rfl
 have mixed:Tryz.prog.follows .mixedOrders=true:=by kernel_rfl
 have u72:=run_underlying Tryz.underlying258
 have u70:=run_underlying Tryz.underlying255
 have u37:=run_underlying Tryz.underlying256
 have u127:=run_underlying Tryz.underlying323
 have u3:=run_underlying Tryz.underlying3
 have u9:=run_underlying Tryz.underlying9
 have u5:=run_underlying Tryz.underlying5
 go_enter Tryz.func203,Tryz.ntmps203
 go_wp2
 go_region_o
 all_goals (go_wp2;go_ret;exact ⟨rfl,grown_drew w _⟩)
set_option maxHeartbeats 2000000 in
set_option maxRecDepth 100000 in
theorem st_noroom (b g:Nat) (p:Value) (cur:Array Value) (w:World) (hbk:w.heap[b]?=some (.cells #[p,.slice (some ⟨g,0,none⟩) 0 0] 258 (0,0))) (hg:w.heap[g]?=some (.cells cur 5 (0,0))) :
  Calls Tryz.prog 203 #[.pointer (some ⟨b,0,none⟩)] w fun e w'=>e=.returned (.string ⟨#[]⟩)∧w.grownBy w' (some g):=by
 have hUS:=us_none
 have hlt:b<w.heap.size:=(Array.getElem?_eq_some_iff.1 hbk).1
 have c1:w.drew.cell? ⟨b,1,none⟩=some (.slice (some ⟨g,0,none⟩) 0 0):=by
  have:w.drew.heap[b]?=some (.cells #[p,.slice (some ⟨g,0,none⟩) 0 0] 258 (0,0)):=hbk
  rw [Lib.cell_of_heap this];rfl
 have hSD:(Builtin.unsafeSliceData_ #[256] 323 #[.slice (some ⟨g,0,none⟩) 0 0]).run Tryz.prog w.drew=.ok (.pointer (some ⟨w.drew.heap.size,0,none⟩)) (w.drew.alloc (.view ⟨g,0,none⟩ 5)):=
  Lib.run_unsafeSliceData_zero w.drew _ _ 5 Tryz.underlying323 ⟨g,0,none⟩ 0 (5,cur.size) (by have hg':w.drew.heap[g]?=some (.cells cur 5 (0,0)):=hg;simp [World.shape?,hg'])
 have c2:(w.drew.alloc (.view ⟨g,0,none⟩ 5)).cell? ⟨b,1,none⟩=some (.slice (some ⟨g,0,none⟩) 0 0):=by
  have:(w.drew.alloc (.view ⟨g,0,none⟩ 5)).heap[b]?=_:=(Lib.alloc_old w.drew _ b hlt).trans hbk
  rw [Lib.cell_of_heap this];rfl
 have c3:(w.alloc (.view ⟨g,0,none⟩ 5)).drew.cell? ⟨b,1,none⟩=some (.slice (some ⟨g,0,none⟩) 0 0):=c2
 have c0:w.cell? ⟨b,1,none⟩=some (.slice (some ⟨g,0,none⟩) 0 0):=c1
 have mixed:Tryz.prog.follows .mixedOrders=true:=by kernel_rfl
 have u72:=run_underlying Tryz.underlying258
 have u70:=run_underlying Tryz.underlying255
 have u37:=run_underlying Tryz.underlying256
 have u127:=run_underlying Tryz.underlying323
 have u3:=run_underlying Tryz.underlying3
 have u9:=run_underlying Tryz.underlying9
 have u5:=run_underlying Tryz.underlying5
 go_enter Tryz.func203,Tryz.ntmps203
 go_wp2
 go_region_o
 all_goals (go_wp2;go_ret;exact ⟨rfl,⟨rfl,rfl,rfl,by simp,fun k hk _=>Go.Sym.heapOld w.drew _ k hk⟩⟩)
set_option maxHeartbeats 2000000 in
set_option maxRecDepth 100000 in
theorem st_room (b g cap:Nat) (p:Value) (w:World) (hc0:cap≠0) (hbk:w.heap[b]?=some (.cells #[p,.slice (some ⟨g,0,none⟩) 0 cap] 258 (0,0))) :
  Calls Tryz.prog 203 #[.pointer (some ⟨b,0,none⟩)] w fun e w'=>e=.returned (.string ⟨#[]⟩)∧w.grownBy w' (some g):=by
 have hUS:=us_none
 have c1:w.drew.cell? ⟨b,1,none⟩=some (.slice (some ⟨g,0,none⟩) 0 cap):=by
  have:w.drew.heap[b]?=some (.cells #[p,.slice (some ⟨g,0,none⟩) 0 cap] 258 (0,0)):=hbk
  rw [Lib.cell_of_heap this];rfl
 have hSD:(Builtin.unsafeSliceData_ #[256] 323 #[.slice (some ⟨g,0,none⟩) 0 cap]).run Tryz.prog w.drew=.ok (.pointer (some ⟨g,0,none⟩)) w.drew:=
  Lib.run_unsafeSliceData_row _ _ _ _ _ _ hc0
 clear hc0
 have mixed:Tryz.prog.follows .mixedOrders=true:=by kernel_rfl
 have u72:=run_underlying Tryz.underlying258
 have u70:=run_underlying Tryz.underlying255
 have u37:=run_underlying Tryz.underlying256
 have u127:=run_underlying Tryz.underlying323
 have u3:=run_underlying Tryz.underlying3
 have u9:=run_underlying Tryz.underlying9
 have u5:=run_underlying Tryz.underlying5
 go_enter Tryz.func203,Tryz.ntmps203
 go_wp2
 go_region_o
 all_goals (go_wp2;go_ret;exact ⟨rfl,grown_drew w _⟩)
theorem st_calls(b:Nat)(p v:Value)(l:List UInt8)(w:World)(hbk:w.heap[b]?=some (.cells #[p,v] 258 (0,0)))(hown:w.ownsRow 0 5 1 v l.length (Lib.byteCells l)):
  Calls Tryz.prog 203 #[.pointer (some ⟨b,0,none⟩)] w fun e w'=>e=.returned (.string ⟨l.toArray⟩)∧w.grownBy w' v.ownBlock:=by
 rcases hown.2 with ⟨rfl,hz⟩ | ⟨g,cap,cur,rfl,hbg,hg,hnc,hcm,hcs,htake⟩
 ·have hl:l=[]:=List.eq_nil_of_length_eq_zero hz
  subst hl
  exact st_nil b p w hbk
 ·by_cases hl:l=[]
  ·subst hl
   by_cases hc:cap=0
   ·subst hc
    exact st_noroom b g p cur w hbk hg
   ·exact st_room b g cap p w hc hbk
  ·exact st_bytes b g cap p cur l w hl hbk hown hg hnc hcm hcs
end
section
open Go.Sym Go.RowKit Go.Lib Go.Proofs Go.Proofs.YtidbmbpeblmliaaGreatDoor
theorem bytes_eq{K:Know}{x:BA}{xs:List Value}(h:RelLK K (bytesC x).flatten xs.toArray):xs=Lib.byteCells x.data.toList:=by
 rw [bytesC_flat] at h
 have hl:xs.length=x.data.toList.length:=by simpa using h.1
 apply List.ext_getElem
 ·simpa [Lib.byteCells] using hl
 ·intro j h1 h2
  have hj:j<x.data.size:=by rw [hl] at h1;simpa using h1
  have h3:=(h.2 j (by simpa using hj)).1
  rw [getD_toArray] at h3
  simp only [gE,List.getElem?_map,Array.getElem?_toList,getElem?_pos x.data j hj,Option.map_some,Option.getD_some,List.getElem?_eq_getElem h1] at h3
  generalize hu:xs[j]=u at h3
  cases h3
  simp [Lib.byteCells]
theorem str_c(b r:Nat)(x:BA)(hbr:b≠r)(hx:x.size≤9223372036854775807):FOwn Tryz.prog 203 [r] [.c (.ptr b 0)] (mB b r x) (.v (.c (.str x))) [(b,.cells [.junk,.junk]),(r,.gone)]:=by
 refine ⟨libf Tryz.func203 kr,fun E w vs hKl hK hat hsz hrel=>?_⟩
 have hvs:vs=#[vs.getD 0 undef]:=by
  apply Array.ext
  ·simpa using hsz
  ·intro i hi _
   have:i=0:=by simp at hsz;omega
   subst this
   simp [Array.getElem?_eq_getElem hi]
 rw [hvs]
 obtain ⟨bb,p,v,xs,hu,h1,h2,h3,h4,h5,h6,h7⟩:=bld_in hbr hat (hrel 0 (by simp))
 rw [hu]
 have hxs:=bytes_eq h7
 subst hxs
 refine (st_calls bb p v x.data.toList w h3 h5).mono ?_
 rintro e w' ⟨rfl,hg⟩
 have hcr:E.cel r=none:=by
  cases h:E.cel r with
  | none=>rfl
  | some g =>
   obtain ⟨o,ho,hbx⟩:=hat.cel r g h
   simp only [mB,List.mem_cons,Prod.mk.injEq,List.not_mem_nil,or_false] at ho
   rcases ho with ⟨h1,_⟩ | ⟨_,rfl⟩
   ·exact absurd h1.symm hbr
   ·cases hbx
 have hold:∀ k,k<w.heap.size→(∀ n,¬ E.holds n k)→w'.heap[k]?=w.heap[k]?:=fun k hk hn=>hg.block k hk (fun e=>hn r (.inr (.inr ⟨_,_,h2,e.symm⟩)))
 have hholds:∀ n g,(E.upd E.K (fun n=>if n=r then some (.slice none 0 0,0) else E.rw n)).holds n g→E.holds n g:=fun n g h=>by
  rcases h with h | h | ⟨hd,len,h,h'⟩
  ·exact .inl h
  ·exact .inr (.inl h)
  ·simp only [Env.upd] at h
   by_cases hn:n=r
   ·subst hn
    rw [if_pos rfl] at h
    cases h
    cases h'
   ·rw [if_neg hn] at h
    exact .inr (.inr ⟨hd,len,h,h'⟩)
 refine ⟨E.K,fun n=>if n=r then some (.slice none 0 0,0) else E.rw n,_,rfl,?_,?_⟩
 ·refine
  {le:=Know.le_refl _
   nk:=fun _ _ h=>h
   know:=fun k o h=>by
    have h1:=hK k o h
    rw [hold k (Array.getElem?_eq_some_iff.1 h1).1 fun n hn=>by have:=(hat.place n k hn).1;rw [h] at this;cases this]
    exact h1
   same:=fun n hn=>?_
   mem:=fun n o h=>?_
   inj:=fun n n' g h h'=>hat.inj n n' g (hholds n g h) (hholds n' g h')
   place:=fun n g h=>by
    have h2:=hat.place n g (hholds n g h)
    exact ⟨h2.1,Nat.lt_of_lt_of_le h2.2 hg.size,.inr ⟨n,hholds n g h⟩⟩
   os:=hg.os
   tape:=hg.tape
   output:=hg.output
   size:=hg.size
   old:=hold }
  ·by_cases hr':n=r
   ·subst hr'
    simp [hasN] at hn
   ·rw [if_neg hr']
  ·simp only [List.mem_cons,List.not_mem_nil,or_false,Prod.mk.injEq] at h
   rcases h with ⟨rfl,rfl⟩ | ⟨rfl,rfl⟩
   ·refine ⟨bb,#[p,v],_,h1,(hg.block bb (Array.getElem?_eq_some_iff.1 h3).1 (fun e=>h6 e.symm)).trans h3,rfl,fun j hj=>?_⟩
    match j,hj with
    | 0,_=>exact ⟨.junk _,by rcases h4 with rfl | rfl<;>rfl⟩
    | 1,_=>exact ⟨.junk _,by rcases h5.2 with ⟨h,_⟩ | ⟨g,cap,cur,h,_⟩<;>(subst h;rfl)⟩
   ·exact ⟨.slice none 0 0,0,by simp [Env.upd],rfl⟩
 ·exact ⟨RelK.str _ hx,rfl⟩
end
end Go.Proofs.YtidbmbpeblmliaaGreatDoor.Bld
namespace Go.Sym
open Go.RowKit
variable {P:Program}
theorem wk_nilBld{s:S}(n r T e:Nat)(hn:s.m[n]?=some (some (.tcells T [.junk,.nil])))(hm:s.m[r]?=some none):
  Wk P s { s with m:=(s.m.set r (some (.row e 1 []))).set n (some (.tcells T [.junk,.row r 0])) }:=by
 intro B E a w hs
 obtain ⟨E',hle,hK,hrw,hh,hc⟩:=core_nilRow (e:=e) (sz:=1) hs.core hm (by decide)
 have hne:n≠r:=fun e=>by rw [e,hm] at hn;cases hn
 have hn':(s.m.set r (some (.row e 1 [])))[n]?=some (some (.tcells T [.junk,.nil])):=by rw [getElem?_set_ne hne];exact hn
 refine ⟨E',?_,hK,hle.c,hh⟩
 have hc2:Core B E' ((s.m.set r (some (.row e 1 []))).set n (some (.tcells T [.junk,.row r 0]))) w:=by
  obtain ⟨b,arr,hb,hheap,hsn,hrel⟩:MRel E' w n (.tcells T [.junk,.nil]):=hc.mem n _ hn'
  obtain ⟨hrn,hmn⟩:=hc.noRow hb
  refine hc.step ⟨_,hn'⟩ (Env.Le.refl E') rfl (fun _ _=>⟨rfl,rfl,rfl⟩) (fun b h=>rfl) (fun x h=>?_) (fun b h=>?_) ?_ (fun b' h=>⟨.inr h,hc.lt n b' h⟩) (Nat.le_refl _) rfl rfl rfl (fun _ _ _=>rfl)
  ·rw [hrn] at h;cases h
  ·rw [hmn] at h;cases h
  ·refine ⟨b,arr,hb,hheap,hsn,hrel.1,fun j hj=>?_⟩
   match j,hj with
   | 0,_=>exact hrel.2 0 (Nat.succ_pos _)
   | 1,_ =>
    obtain ⟨g1,g2⟩:=hrel.2 1 (Nat.lt_succ_self 1)
    refine ⟨?_,g2⟩
    have g1':RelK E'.K .nil (arr.getD 1 undef):=g1
    generalize arr.getD 1 undef=u at g1'
    cases g1'
    exact ⟨_,_,hrw,Nat.le_refl _,fun _=>rfl⟩
 exact hs.le hle hc2
end Go.Sym
